/- Merged: C8i P8v P8w C8q C8z C8j P8k C8k P8c P8e2 P8t P8u EngX. -/
import Derived.Test.YtmedjckknalpbaaMg1
import Derived.WalkKit
import Derived.Deep.RegionHeld3
import Derived.Shelf.SlicesE.Delete
import Derived.Shelf.SlGeneric
import Derived.Ground.SlgnProg
import Derived.Test.YtmedjckknalpbaaEngW
set_option linter.unusedSimpArgs false
set_option linter.unusedVariables false
set_option linter.unnecessarySimpa false
namespace Go.Tk
open Go Go.RowKit
abbrev cHas8r : Con := { A := (.cons (.sl .int) (.cons .int .nil)), R := (.cons .bool .nil), pre := fun x => x.1.length ≤ 1000000, F := fun x => (decide (x.2.1 ∈ x.1), ()) }
def cHas8r_0 (Λ1 : Int → Prop) (l : (List Int)) (n : Int) (y0 : Bool) : Prop :=
  Λ1 (0 : Int)
def cHas8r_1 (Λ1 : Int → Prop) (l : (List Int)) (n : Int) (y0 : Bool)  (i_1 : Int) : Prop :=
  if (decide (i_1 < (List.length l : Int))) = true then (idx i_1 (List.length l : Int) ∧ (if ((List.getD l (Int.toNat i_1) 0) == n) = true then (true = y0 ∧ True) else (inI (i_1 + (1 : Int)) ∧ Λ1 (i_1 + (1 : Int))))) else (false = y0 ∧ True)
theorem cHas8r_law (h : ∀ (l : (List Int)) (n : Int), cHas8r.A.wf (l, n, ()) → (l.length ≤ 1000000) → ∀ (Λ1 : Int → Prop), (∀ (i_1 : Int), cHas8r_1 Λ1 l n (decide (n ∈ l)) i_1 → Λ1 i_1) → cHas8r_0 Λ1 l n (decide (n ∈ l))) : ConOK Go.Proofs.Try.prog 64 cHas8r := by
  refine lawL (Γ := []) (Θ := Th) (n := 18) [([1, 0, 1, 0], ⟨[(0, false), (1, false), (5, true)], []⟩)] trivial (by kernel_rfl) th_ok mix_ok Go.Proofs.Try.func64 (by kernel_rfl) ?_
  intro x hw hp Λ hC
  have h0 := h x.1 x.2.1 hw hp (fun i_1 => Λ [1, 0, 1, 0] ([(0, .d false (.sl .int) x.1), (1, .d false .int x.2.1), (5, .d true .int i_1)], [])) (fun i_1 hb => hC [1, 0, 1, 0] ([(0, .d false (.sl .int) x.1), (1, .d false .int x.2.1), (5, .d true .int i_1)], []) (Eq.mpr (by kernel_rfl) hb))
  exact Eq.mpr (by kernel_rfl) h0
theorem cHas8r_ok : ConOK Go.Proofs.Try.prog 64 cHas8r := by
  refine cHas8r_law ?_
  intro l n hw hp Λ1 h1
  unfold cHas8r_0
  refine upto (n := l.length) (Q := fun i => (l.take i).any (fun r => r == n) = false → Λ1 i) ?_ ?_ 0 (Nat.zero_le _) rfl
  · intro ha
    rw [List.take_length] at ha
    apply h1; unfold cHas8r_1; rw [if_neg (by simp)]
    refine ⟨?_, trivial⟩
    have : ¬ n ∈ l := fun h => by
      have := List.any_eq_false.1 ha n h
      simp at this
    simp [this]
  · intro i hi ih ha
    apply h1; unfold cHas8r_1; rw [if_pos (by simpa using hi), Int.toNat_natCast]
    refine ⟨idx_nat hi, ?_⟩
    cases hv : (List.getD l i 0 == n)
    · rw [if_neg (by simp)]
      exact ⟨inI_succ hi (by omega), ih (any_take_next (p := fun r => r == n) 0 hi ha hv)⟩
    · rw [if_pos (by rfl)]
      have : n ∈ l := by
        have e := eq_of_beq hv
        rw [← e]; exact mem_getD hi
      exact ⟨by simp [this], trivial⟩
theorem bit_test1 (m k : Nat) (h : m < 9223372036854775808) : (IntKind.i64.wrap (BitVec.ofInt 64 (Int.fdiv (m : Int) (2 ^ k)) &&& BitVec.ofInt 64 (1 : Int)).toNat == (1 : Int)) = m.testBit k := by
  have e : Int.fdiv (m : Int) (2 ^ k) = ((m / 2 ^ k : Nat) : Int) := by
    rw [show ((2 : Int) ^ k) = ((2 ^ k : Nat) : Int) by norm_cast]
    exact (Int.ofNat_fdiv m (2 ^ k)).symm
  rw [e, bit_and _ (Nat.lt_of_le_of_lt (Nat.div_le_self ..) h), Nat.testBit_eq_decide_div_mod_eq]
  rcases Nat.mod_two_eq_zero_or_one (m / 2 ^ k) with e | e <;> rw [e] <;> decide
abbrev cSub8r : Con := { A := (.cons .int (.cons .int .nil)), R := (.cons (.osl .int) .nil), pre := fun x => 0 ≤ x.1 ∧ x.1 < 4294967296 ∧ 0 ≤ x.2.1 ∧ x.2.1 ≤ 60, F := fun x => (setOf x.2.1.toNat x.1.toNat, ()) }
def cSub8r_0 (Λ1 : Int → (List Int) → Prop) (bits : Int) (n : Int) (y0 : (List Int)) : Prop :=
  Λ1 (0 : Int) ([] : List Int)
def cSub8r_1 (Λ1 : Int → (List Int) → Prop) (bits : Int) (n : Int) (y0 : (List Int))  (i_1 : Int) (out_1 : (List Int)) : Prop :=
  if (decide (i_1 < n)) = true then ((0 ≤ i_1 ∧ i_1 < 64) ∧ (True ∧ (if ((IntKind.i64.wrap (BitVec.ofInt 64 (Int.fdiv bits (2 ^ (Int.toNat i_1))) &&& BitVec.ofInt 64 (1 : Int)).toNat) == (1 : Int)) = true then (List.length out_1 + List.length [i_1] ≤ 4294967296 ∧ (inI (i_1 + (1 : Int)) ∧ Λ1 (i_1 + (1 : Int)) (out_1 ++ [i_1]))) else (inI (i_1 + (1 : Int)) ∧ Λ1 (i_1 + (1 : Int)) out_1)))) else out_1 = y0
theorem cSub8r_law (h : ∀ (bits : Int) (n : Int), cSub8r.A.wf (bits, n, ()) → (0 ≤ bits ∧ bits < 4294967296 ∧ 0 ≤ n ∧ n ≤ 60) → ∀ (Λ1 : Int → (List Int) → Prop), (∀ (i_1 : Int) (out_1 : (List Int)), cSub8r_1 Λ1 bits n (setOf n.toNat bits.toNat) i_1 out_1 → Λ1 i_1 out_1) → cSub8r_0 Λ1 bits n (setOf n.toNat bits.toNat)) : ConOK Go.Proofs.Try.prog 63 cSub8r := by
  refine lawL (Γ := []) (Θ := Th) (n := 22) [([1, 1, 0, 1, 0], ⟨[(0, false), (1, false), (5, true), (6, true)], [(5, true)]⟩)] trivial (by kernel_rfl) th_ok mix_ok Go.Proofs.Try.func63 (by kernel_rfl) ?_
  intro x hw hp Λ hC
  have h0 := h x.1 x.2.1 hw hp (fun i_1 out_1 => Λ [1, 1, 0, 1, 0] ([(0, .d false .int x.1), (1, .d false .int x.2.1), (5, .own 5 0), (6, .d true .int i_1)], [(5, .sl true .int out_1)])) (fun i_1 out_1 hb => hC [1, 1, 0, 1, 0] ([(0, .d false .int x.1), (1, .d false .int x.2.1), (5, .own 5 0), (6, .d true .int i_1)], [(5, .sl true .int out_1)]) (Eq.mpr (by kernel_rfl) hb))
  exact Eq.mpr (by kernel_rfl) h0
theorem cSub8r_ok : ConOK Go.Proofs.Try.prog 63 cSub8r := by
  refine cSub8r_law ?_
  intro bits n hw hp Λ1 h1
  unfold cSub8r_0
  obtain ⟨p1, p2, p3, p4⟩ := hp
  obtain ⟨m, rfl⟩ : ∃ m : Nat, n = m := ⟨n.toNat, by omega⟩
  obtain ⟨b, rfl⟩ : ∃ b : Nat, bits = b := ⟨bits.toNat, by omega⟩
  rw [Int.toNat_natCast, Int.toNat_natCast] at h1
  refine upto (n := m) (Q := fun i => Λ1 i (setOf i b)) ?_ ?_ 0 (Nat.zero_le _)
  · apply h1; unfold cSub8r_1; rw [if_neg (by simp)]
  · intro i hi ih
    apply h1; unfold cSub8r_1; rw [if_pos (by simpa using hi)]
    refine ⟨⟨by omega, by omega⟩, trivial, ?_⟩
    rw [Int.toNat_natCast, bit_test1 b i (by omega)]
    have hs : setOf (i + 1) b = if b.testBit i = true then setOf i b ++ [(i : Int)] else setOf i b := by
      unfold setOf
      rw [filt_nums_succ]
      simp
    rw [hs] at ih
    have hl := setOf_len i b
    cases hv : b.testBit i
    · rw [hv] at ih
      rw [if_neg (by simp)]
      exact ⟨by unfold inI; omega, by simpa using ih⟩
    · rw [hv] at ih
      rw [if_pos rfl]
      exact ⟨by simp; omega, by unfold inI; omega, by simpa using ih⟩
abbrev cBefore8r : Con := { A := (.cons (.sl .int) (.cons (.sl .int) .nil)), R := (.cons .bool .nil), pre := fun x => x.1.length ≤ 1000000 ∧ x.2.1.length ≤ 1000000, F := fun x => (decide (cmpL x.1 x.2.1 < 0), ()) }
def cBefore8r_0 (Λ1 : Int → Prop) (a : (List Int)) (b : (List Int)) (y0 : Bool) : Prop :=
  Λ1 (0 : Int)
def cBefore8r_1 (Λ1 : Int → Prop) (a : (List Int)) (b : (List Int)) (y0 : Bool)  (i_1 : Int) : Prop :=
  if (decide (i_1 < (List.length a : Int))) = true then (True ∧ (if (bif true then (decide (i_1 < (List.length b : Int))) else false) = true then (idx i_1 (List.length a : Int) ∧ (idx i_1 (List.length b : Int) ∧ (if ((List.getD a (Int.toNat i_1) 0) != (List.getD b (Int.toNat i_1) 0)) = true then (idx i_1 (List.length a : Int) ∧ (idx i_1 (List.length b : Int) ∧ ((decide ((List.getD a (Int.toNat i_1) 0) < (List.getD b (Int.toNat i_1) 0))) = y0 ∧ True))) else (inI (i_1 + (1 : Int)) ∧ Λ1 (i_1 + (1 : Int)))))) else ((decide ((List.length a : Int) < (List.length b : Int))) = y0 ∧ True))) else (false = false ∧ ((decide ((List.length a : Int) < (List.length b : Int))) = y0 ∧ True))
theorem cBefore8r_law (h : ∀ (a : (List Int)) (b : (List Int)), cBefore8r.A.wf (a, b, ()) → (a.length ≤ 1000000 ∧ b.length ≤ 1000000) → ∀ (Λ1 : Int → Prop), (∀ (i_1 : Int), cBefore8r_1 Λ1 a b (decide (cmpL a b < 0)) i_1 → Λ1 i_1) → cBefore8r_0 Λ1 a b (decide (cmpL a b < 0))) : ConOK Go.Proofs.Try.prog 65 cBefore8r := by
  refine lawL (Γ := []) (Θ := Th) (n := 41) [([1, 0, 1, 0], ⟨[(0, false), (1, false), (5, true)], []⟩)] trivial (by kernel_rfl) th_ok mix_ok Go.Proofs.Try.func65 (by kernel_rfl) ?_
  intro x hw hp Λ hC
  have h0 := h x.1 x.2.1 hw hp (fun i_1 => Λ [1, 0, 1, 0] ([(0, .d false (.sl .int) x.1), (1, .d false (.sl .int) x.2.1), (5, .d true .int i_1)], [])) (fun i_1 hb => hC [1, 0, 1, 0] ([(0, .d false (.sl .int) x.1), (1, .d false (.sl .int) x.2.1), (5, .d true .int i_1)], []) (Eq.mpr (by kernel_rfl) hb))
  exact Eq.mpr (by kernel_rfl) h0
theorem cBefore8r_ok : ConOK Go.Proofs.Try.prog 65 cBefore8r := by
  refine cBefore8r_law ?_
  intro a b hw hp Λ1 h1
  unfold cBefore8r_0
  obtain ⟨p1, p2⟩ := hp
  have key : ∀ i, i ≤ a.length → i ≤ b.length → a.take i = b.take i → Λ1 (i : Int) := by
    refine upto ?_ ?_
    · intro h2 ha
      apply h1; unfold cBefore8r_1
      rw [if_neg (by simp), cmpL_end ha h2]
      refine ⟨rfl, ?_, trivial⟩
      by_cases hlt : a.length < b.length
      · rw [if_pos hlt]; simp; omega
      · rw [if_neg hlt]; simp; omega
    · intro i hi ih h2 ha
      apply h1; unfold cBefore8r_1
      rw [if_pos (by simpa using hi)]
      refine ⟨trivial, ?_⟩
      by_cases hlt : i < b.length
      · rw [if_pos (by simpa using hlt), Int.toNat_natCast]
        refine ⟨idx_nat hi, idx_nat hlt, ?_⟩
        by_cases hv : a.getD i 0 = b.getD i 0
        · rw [hv, if_neg (by simp)]
          exact ⟨by unfold inI; omega, ih hlt (by rw [take_snoc 0 hi, take_snoc 0 hlt, ha, hv])⟩
        · rw [if_pos (by rw [bne_iff_ne]; exact hv), cmpL_at ha hi hlt hv]
          refine ⟨idx_nat hi, idx_nat hlt, ?_, trivial⟩
          rw [decide_eq_decide]
          unfold cmpI
          generalize a.getD i 0 = x
          generalize b.getD i 0 = y
          split
          · omega
          · split
            · omega
            · omega
      · rw [if_neg (by simp; omega), cmpL_gt ha hi (by omega) h2]
        exact ⟨by simp; omega, trivial⟩
  exact key 0 (Nat.zero_le _) (Nat.zero_le _) rfl
theorem stepB_take (t : Ste) {i : Nat} (hi : i < 2 ^ goals8 t) : ((setsL (goals8 t)).take (i + 1)).foldl (stepB (goodR t)) [] = stepB (goodR t) (((setsL (goals8 t)).take i).foldl (stepB (goodR t)) []) (setOf (goals8 t) i) := by
  rw [foldl_take [] (stepB (goodR t)) [] (by rw [setsL_len]; exact hi), setsL_get hi]
abbrev cEssR : Con := { A := (.cons (.sl (.sl .int)) .nil), R := (.cons (.osl .int) (.cons .int .nil)), pre := fun x => True, F := fun x => ((if validT x.1 = 0 then essT x.1 else []), validT x.1, ()) }
def cEssR_0 (Λ1 : Int → (List Int) → Prop) (Λ2 : (List Int) → Int → Int → (List Int) → Prop) (t : (List (List Int))) (y0 : (List Int)) (y1 : Int) : Prop :=
  True ∧ (if ((validT t) != (0 : Int)) = true then ((validT t) = y1 ∧ ([] : List Int) = y0) else Λ1 (0 : Int) ([] : List Int))
def cEssR_1 (Λ1 : Int → (List Int) → Prop) (Λ2 : (List Int) → Int → Int → (List Int) → Prop) (t : (List (List Int))) (y0 : (List Int)) (y1 : Int)  (r_1 : Int) (out_1 : (List Int)) : Prop :=
  if (decide (r_1 < (List.length t : Int))) = true then Λ2 out_1 r_1 (0 : Int) ([] : List Int) else ((0 : Int) = y1 ∧ out_1 = y0)
def cEssR_2 (Λ1 : Int → (List Int) → Prop) (Λ2 : (List Int) → Int → Int → (List Int) → Prop) (t : (List (List Int))) (y0 : (List Int)) (y1 : Int) (out_1 : (List Int)) (r_1 : Int) (i_2 : Int) (others_2 : (List Int)) : Prop :=
  if (decide (i_2 < (List.length t : Int))) = true then (if (i_2 != r_1) = true then (List.length others_2 + List.length [i_2] ≤ 4294967296 ∧ (inI (i_2 + (1 : Int)) ∧ Λ2 out_1 r_1 (i_2 + (1 : Int)) (others_2 ++ [i_2]))) else (inI (i_2 + (1 : Int)) ∧ Λ2 out_1 r_1 (i_2 + (1 : Int)) others_2)) else ((okT t ∧ inT t others_2 ∧ others_2.length ≤ 1000000) ∧ (okT t ∧ (if (decide ((List.length (metL t others_2) : Int) < (List.length (openL t) : Int))) = true then (List.length out_1 + List.length [r_1] ≤ 4294967296 ∧ (inI (r_1 + (1 : Int)) ∧ Λ1 (r_1 + (1 : Int)) (out_1 ++ [r_1]))) else (inI (r_1 + (1 : Int)) ∧ Λ1 (r_1 + (1 : Int)) out_1))))
theorem cEssR_law (h : ∀ (t : (List (List Int))), cEssR.A.wf (t, ()) → ∀ (Λ1 : Int → (List Int) → Prop) (Λ2 : (List Int) → Int → Int → (List Int) → Prop), (∀ (r_1 : Int) (out_1 : (List Int)), cEssR_1 Λ1 Λ2 t (if validT t = 0 then essT t else []) (validT t) r_1 out_1 → Λ1 r_1 out_1) → (∀ (out_1 : (List Int)) (r_1 : Int) (i_2 : Int) (others_2 : (List Int)), cEssR_2 Λ1 Λ2 t (if validT t = 0 then essT t else []) (validT t) out_1 r_1 i_2 others_2 → Λ2 out_1 r_1 i_2 others_2) → cEssR_0 Λ1 Λ2 t (if validT t = 0 then essT t else []) (validT t)) : ConOK Go.Proofs.Try.prog 23 cEssR := by
  refine lawL (Γ := [(71, cMet8r), (61, cOpen8r), (36, cVal8r)]) (Θ := Th) (n := 46) [([1, 1, 1, 1, 0, 1, 0], ⟨[(0, false), (5, true), (6, true)], [(5, true)]⟩), ([1, 1, 1, 1, 0, 1, 0, 0, 1, 0, 0, 1, 0, 1, 0], ⟨[(0, false), (5, true), (6, true), (7, true), (8, true)], [(5, true), (7, true)]⟩)] ⟨cMet8r_ok, cOpen8r_ok, cVal8r_ok, trivial⟩ (by kernel_rfl) th_ok mix_ok Go.Proofs.Try.func23 (by kernel_rfl) ?_
  intro x hw hp Λ hC
  have h0 := h x.1 hw (fun r_1 out_1 => Λ [1, 1, 1, 1, 0, 1, 0] ([(0, .d false (.sl (.sl .int)) x.1), (5, .own 5 0), (6, .d true .int r_1)], [(5, .sl true .int out_1)])) (fun out_1 r_1 i_2 others_2 => Λ [1, 1, 1, 1, 0, 1, 0, 0, 1, 0, 0, 1, 0, 1, 0] ([(0, .d false (.sl (.sl .int)) x.1), (5, .own 5 0), (6, .d true .int r_1), (7, .own 7 0), (8, .d true .int i_2)], [(5, .sl true .int out_1), (7, .sl true .int others_2)])) (fun r_1 out_1 hb => hC [1, 1, 1, 1, 0, 1, 0] ([(0, .d false (.sl (.sl .int)) x.1), (5, .own 5 0), (6, .d true .int r_1)], [(5, .sl true .int out_1)]) (Eq.mpr (by kernel_rfl) hb)) (fun out_1 r_1 i_2 others_2 hb => hC [1, 1, 1, 1, 0, 1, 0, 0, 1, 0, 0, 1, 0, 1, 0] ([(0, .d false (.sl (.sl .int)) x.1), (5, .own 5 0), (6, .d true .int r_1), (7, .own 7 0), (8, .d true .int i_2)], [(5, .sl true .int out_1), (7, .sl true .int others_2)]) (Eq.mpr (by kernel_rfl) hb))
  exact Eq.mpr (by kernel_rfl) h0
theorem cEssR_ok : ConOK Go.Proofs.Try.prog 23 cEssR := by
  refine cEssR_law ?_
  intro t hw Λ1 Λ2 h1 h2
  unfold cEssR_0
  refine ⟨trivial, ?_⟩
  by_cases h0 : validT t = 0
  · rw [if_neg (by simp [h0])]
    rw [if_pos h0, h0] at h1 h2
    have ht := validT_ok.1 h0
    have h8 := ht.1
    refine upto (n := t.length) (Q := fun k => Λ1 k (essK t k)) ?_ ?_ 0 (Nat.zero_le _)
    · apply h1; unfold cEssR_1
      rw [if_neg (by simp)]
      exact ⟨rfl, rfl⟩
    · intro k hk ih
      apply h1; unfold cEssR_1
      rw [if_pos (by simpa using hk)]
      have hin : inI ((k : Int) + 1) := by unfold inI; omega
      have hel := filt_nums_len (fun r => !coverB t (others t r)) k
      unfold essK at ih
      rw [filt_nums_succ] at ih
      change (essK t k).length ≤ k at hel
      refine upto (n := t.length) (Q := fun i => Λ2 (essK t k) (k : Int) (i : Int) (othK k i)) ?_ ?_ 0 (Nat.zero_le _)
      · apply h2; unfold cEssR_2
        rw [if_neg (by simp)]
        have hoth : inT t (othK k t.length) := nums_filter_in t _
        have hol := filt_nums_len (fun i => !(i == (k : Int))) t.length
        change (othK k t.length).length ≤ _ at hol
        have hcov := cover_lt hoth
        have ih2 : Λ1 ((k : Int) + 1) (if (!coverB t (othK k t.length)) = true then essK t k ++ [(k : Int)] else essK t k) := ih
        rw [hcov] at ih2
        have hap : (essK t k).length + 1 ≤ 4294967296 := by omega
        have hol2 : (othK (↑k) t.length).length ≤ 1000000 := by omega
        refine ⟨⟨ht, hoth, hol2⟩, ht, ?_⟩
        generalize (metL t (othK (↑k) t.length)).length = x at ih2 ⊢
        generalize (openL t).length = y at ih2 ⊢
        by_cases hxy : x < y
        · rw [if_pos (by simpa using hxy)]
          rw [if_pos (by simpa using hxy)] at ih2
          exact ⟨hap, hin, ih2⟩
        · rw [if_neg (by simpa using hxy)]
          rw [if_neg (by simpa using hxy)] at ih2
          exact ⟨hin, ih2⟩
      · intro i hi ihi
        apply h2; unfold cEssR_2
        rw [if_pos (by simpa using hi)]
        have hs : othK k (i + 1) = if (!((i : Int) == (k : Int))) = true then othK k i ++ [(i : Int)] else othK k i := by
          unfold othK
          rw [filt_nums_succ]
        rw [hs] at ihi
        have hol := filt_nums_len (fun i => !(i == (k : Int))) i
        change (othK k i).length ≤ i at hol
        have hin2 : inI ((i : Int) + 1) := by unfold inI; omega
        by_cases e : (i : Int) = (k : Int)
        · rw [if_neg (by simp [e])]
          rw [if_neg (by simp [e])] at ihi
          exact ⟨hin2, ihi⟩
        · rw [if_pos (by simpa using e)]
          rw [if_pos (by simpa using e)] at ihi
          exact ⟨by simp; omega, hin2, ihi⟩
  · rw [if_pos (by simp [h0]), if_neg h0]
    exact ⟨rfl, rfl⟩
abbrev cNeedR : Con := { A := (.cons (.sl (.sl .int)) .nil), R := (.cons (.osl .int) (.cons .int .nil)), pre := fun x => True, F := fun x => ((if validT x.1 = 0 then needT x.1 else []), validT x.1, ()) }
def cNeedR_0 (Λ1 : Int → (List Int) → Prop) (Λ2 : (List Int) → Int → Int → Prop) (Λ3 : Int → (List Int) → Int → Int → Int → Int → Prop) (Λ4 : Int → Int → Int → (List Int) → Int → Int → Prop) (t : (List (List Int))) (y0 : (List Int)) (y1 : Int) : Prop :=
  True ∧ (if ((validT t) != (0 : Int)) = true then ((validT t) = y1 ∧ ([] : List Int) = y0) else Λ1 (0 : Int) ([] : List Int))
def cNeedR_1 (Λ1 : Int → (List Int) → Prop) (Λ2 : (List Int) → Int → Int → Prop) (Λ3 : Int → (List Int) → Int → Int → Int → Int → Prop) (Λ4 : Int → Int → Int → (List Int) → Int → Int → Prop) (t : (List (List Int))) (y0 : (List Int)) (y1 : Int)  (r_1 : Int) (out_1 : (List Int)) : Prop :=
  if (decide (r_1 < (List.length t : Int))) = true then Λ2 out_1 r_1 (0 : Int) else ((0 : Int) = y1 ∧ out_1 = y0)
def cNeedR_2 (Λ1 : Int → (List Int) → Prop) (Λ2 : (List Int) → Int → Int → Prop) (Λ3 : Int → (List Int) → Int → Int → Int → Int → Prop) (Λ4 : Int → Int → Int → (List Int) → Int → Int → Prop) (t : (List (List Int))) (y0 : (List Int)) (y1 : Int) (out_1 : (List Int)) (r_1 : Int) (i_2 : Int) : Prop :=
  if (decide (i_2 < (List.length t : Int))) = true then (if (i_2 == r_1) = true then (inI (i_2 + (1 : Int)) ∧ Λ2 out_1 r_1 (i_2 + (1 : Int))) else Λ3 i_2 out_1 r_1 (0 : Int) (0 : Int) (0 : Int)) else (inI (r_1 + (1 : Int)) ∧ Λ1 (r_1 + (1 : Int)) out_1)
def cNeedR_3 (Λ1 : Int → (List Int) → Prop) (Λ2 : (List Int) → Int → Int → Prop) (Λ3 : Int → (List Int) → Int → Int → Int → Int → Prop) (Λ4 : Int → Int → Int → (List Int) → Int → Int → Prop) (t : (List (List Int))) (y0 : (List Int)) (y1 : Int) (i_2 : Int) (out_1 : (List Int)) (r_1 : Int) (more_3 : Int) (less_3 : Int) (g_3 : Int) : Prop :=
  True ∧ (if (decide (g_3 < ((goals8 t : Int)))) = true then (idx i_2 (List.length t : Int) ∧ (idx g_3 (List.length (List.getD t (Int.toNat i_2) ([] : List Int)) : Int) ∧ (idx r_1 (List.length t : Int) ∧ (idx g_3 (List.length (List.getD t (Int.toNat r_1) ([] : List Int)) : Int) ∧ (if (decide ((List.getD (List.getD t (Int.toNat i_2) ([] : List Int)) (Int.toNat g_3) 0) > (List.getD (List.getD t (Int.toNat r_1) ([] : List Int)) (Int.toNat g_3) 0))) = true then (inI (more_3 + (1 : Int)) ∧ Λ4 g_3 i_2 less_3 out_1 r_1 (more_3 + (1 : Int))) else Λ4 g_3 i_2 less_3 out_1 r_1 more_3))))) else (if (less_3 == (0 : Int)) = true then (if (decide (more_3 > (0 : Int))) = true then (true = true ∧ (True ∧ (if (bif true then true else false) = true then (List.length out_1 + List.length [r_1] ≤ 4294967296 ∧ (inI (r_1 + (1 : Int)) ∧ Λ1 (r_1 + (1 : Int)) (out_1 ++ [r_1]))) else (inI (i_2 + (1 : Int)) ∧ Λ2 out_1 r_1 (i_2 + (1 : Int)))))) else (True ∧ (True ∧ (if (bif true then (bif false then true else (decide (i_2 < r_1))) else false) = true then (List.length out_1 + List.length [r_1] ≤ 4294967296 ∧ (inI (r_1 + (1 : Int)) ∧ Λ1 (r_1 + (1 : Int)) (out_1 ++ [r_1]))) else (inI (i_2 + (1 : Int)) ∧ Λ2 out_1 r_1 (i_2 + (1 : Int))))))) else (false = false ∧ (inI (i_2 + (1 : Int)) ∧ Λ2 out_1 r_1 (i_2 + (1 : Int))))))
def cNeedR_4 (Λ1 : Int → (List Int) → Prop) (Λ2 : (List Int) → Int → Int → Prop) (Λ3 : Int → (List Int) → Int → Int → Int → Int → Prop) (Λ4 : Int → Int → Int → (List Int) → Int → Int → Prop) (t : (List (List Int))) (y0 : (List Int)) (y1 : Int) (g_3 : Int) (i_2 : Int) (less_3 : Int) (out_1 : (List Int)) (r_1 : Int) (more_4 : Int) : Prop :=
  idx i_2 (List.length t : Int) ∧ (idx g_3 (List.length (List.getD t (Int.toNat i_2) ([] : List Int)) : Int) ∧ (idx r_1 (List.length t : Int) ∧ (idx g_3 (List.length (List.getD t (Int.toNat r_1) ([] : List Int)) : Int) ∧ (if (decide ((List.getD (List.getD t (Int.toNat i_2) ([] : List Int)) (Int.toNat g_3) 0) < (List.getD (List.getD t (Int.toNat r_1) ([] : List Int)) (Int.toNat g_3) 0))) = true then (inI (less_3 + (1 : Int)) ∧ (inI (g_3 + (1 : Int)) ∧ Λ3 i_2 out_1 r_1 more_4 (less_3 + (1 : Int)) (g_3 + (1 : Int)))) else (inI (g_3 + (1 : Int)) ∧ Λ3 i_2 out_1 r_1 more_4 less_3 (g_3 + (1 : Int)))))))
theorem cNeedR_law (h : ∀ (t : (List (List Int))), cNeedR.A.wf (t, ()) → ∀ (Λ1 : Int → (List Int) → Prop) (Λ2 : (List Int) → Int → Int → Prop) (Λ3 : Int → (List Int) → Int → Int → Int → Int → Prop) (Λ4 : Int → Int → Int → (List Int) → Int → Int → Prop), (∀ (r_1 : Int) (out_1 : (List Int)), cNeedR_1 Λ1 Λ2 Λ3 Λ4 t (if validT t = 0 then needT t else []) (validT t) r_1 out_1 → Λ1 r_1 out_1) → (∀ (out_1 : (List Int)) (r_1 : Int) (i_2 : Int), cNeedR_2 Λ1 Λ2 Λ3 Λ4 t (if validT t = 0 then needT t else []) (validT t) out_1 r_1 i_2 → Λ2 out_1 r_1 i_2) → (∀ (i_2 : Int) (out_1 : (List Int)) (r_1 : Int) (more_3 : Int) (less_3 : Int) (g_3 : Int), cNeedR_3 Λ1 Λ2 Λ3 Λ4 t (if validT t = 0 then needT t else []) (validT t) i_2 out_1 r_1 more_3 less_3 g_3 → Λ3 i_2 out_1 r_1 more_3 less_3 g_3) → (∀ (g_3 : Int) (i_2 : Int) (less_3 : Int) (out_1 : (List Int)) (r_1 : Int) (more_4 : Int), cNeedR_4 Λ1 Λ2 Λ3 Λ4 t (if validT t = 0 then needT t else []) (validT t) g_3 i_2 less_3 out_1 r_1 more_4 → Λ4 g_3 i_2 less_3 out_1 r_1 more_4) → cNeedR_0 Λ1 Λ2 Λ3 Λ4 t (if validT t = 0 then needT t else []) (validT t)) : ConOK Go.Proofs.Try.prog 25 cNeedR := by
  refine lawL (Γ := [(62, cGoals8r), (36, cVal8r)]) (Θ := Th) (n := 87) [([1, 1, 1, 1, 0, 1, 0], ⟨[(0, false), (5, true), (6, true)], [(5, true)]⟩), ([1, 1, 1, 1, 0, 1, 0, 0, 1, 0, 0, 1, 0], ⟨[(0, false), (5, true), (6, true), (7, true)], [(5, true)]⟩), ([1, 1, 1, 1, 0, 1, 0, 0, 1, 0, 0, 1, 0, 0, 1, 0, 0, 1, 1, 0, 1, 0], ⟨[(0, false), (5, true), (6, true), (7, true), (8, true), (9, true), (10, true)], [(5, true)]⟩), ([1, 1, 1, 1, 0, 1, 0, 0, 1, 0, 0, 1, 0, 0, 1, 0, 0, 1, 1, 0, 1, 0, 0, 1, 0, 0, 2], ⟨[(0, false), (5, true), (6, true), (7, true), (8, true), (9, true), (10, true)], [(5, true)]⟩)] ⟨cGoals8r_ok, cVal8r_ok, trivial⟩ (by kernel_rfl) th_ok mix_ok Go.Proofs.Try.func25 (by kernel_rfl) ?_
  intro x hw hp Λ hC
  have h0 := h x.1 hw (fun r_1 out_1 => Λ [1, 1, 1, 1, 0, 1, 0] ([(0, .d false (.sl (.sl .int)) x.1), (5, .own 5 0), (6, .d true .int r_1)], [(5, .sl true .int out_1)])) (fun out_1 r_1 i_2 => Λ [1, 1, 1, 1, 0, 1, 0, 0, 1, 0, 0, 1, 0] ([(0, .d false (.sl (.sl .int)) x.1), (5, .own 5 0), (6, .d true .int r_1), (7, .d true .int i_2)], [(5, .sl true .int out_1)])) (fun i_2 out_1 r_1 more_3 less_3 g_3 => Λ [1, 1, 1, 1, 0, 1, 0, 0, 1, 0, 0, 1, 0, 0, 1, 0, 0, 1, 1, 0, 1, 0] ([(0, .d false (.sl (.sl .int)) x.1), (5, .own 5 0), (6, .d true .int r_1), (7, .d true .int i_2), (8, .d true .int more_3), (9, .d true .int less_3), (10, .d true .int g_3)], [(5, .sl true .int out_1)])) (fun g_3 i_2 less_3 out_1 r_1 more_4 => Λ [1, 1, 1, 1, 0, 1, 0, 0, 1, 0, 0, 1, 0, 0, 1, 0, 0, 1, 1, 0, 1, 0, 0, 1, 0, 0, 2] ([(0, .d false (.sl (.sl .int)) x.1), (5, .own 5 0), (6, .d true .int r_1), (7, .d true .int i_2), (8, .d true .int more_4), (9, .d true .int less_3), (10, .d true .int g_3)], [(5, .sl true .int out_1)])) (fun r_1 out_1 hb => hC [1, 1, 1, 1, 0, 1, 0] ([(0, .d false (.sl (.sl .int)) x.1), (5, .own 5 0), (6, .d true .int r_1)], [(5, .sl true .int out_1)]) (Eq.mpr (by kernel_rfl) hb)) (fun out_1 r_1 i_2 hb => hC [1, 1, 1, 1, 0, 1, 0, 0, 1, 0, 0, 1, 0] ([(0, .d false (.sl (.sl .int)) x.1), (5, .own 5 0), (6, .d true .int r_1), (7, .d true .int i_2)], [(5, .sl true .int out_1)]) (Eq.mpr (by kernel_rfl) hb)) (fun i_2 out_1 r_1 more_3 less_3 g_3 hb => hC [1, 1, 1, 1, 0, 1, 0, 0, 1, 0, 0, 1, 0, 0, 1, 0, 0, 1, 1, 0, 1, 0] ([(0, .d false (.sl (.sl .int)) x.1), (5, .own 5 0), (6, .d true .int r_1), (7, .d true .int i_2), (8, .d true .int more_3), (9, .d true .int less_3), (10, .d true .int g_3)], [(5, .sl true .int out_1)]) (Eq.mpr (by kernel_rfl) hb)) (fun g_3 i_2 less_3 out_1 r_1 more_4 hb => hC [1, 1, 1, 1, 0, 1, 0, 0, 1, 0, 0, 1, 0, 0, 1, 0, 0, 1, 1, 0, 1, 0, 0, 1, 0, 0, 2] ([(0, .d false (.sl (.sl .int)) x.1), (5, .own 5 0), (6, .d true .int r_1), (7, .d true .int i_2), (8, .d true .int more_4), (9, .d true .int less_3), (10, .d true .int g_3)], [(5, .sl true .int out_1)]) (Eq.mpr (by kernel_rfl) hb))
  exact Eq.mpr (by kernel_rfl) h0
theorem cNeedR_ok : ConOK Go.Proofs.Try.prog 25 cNeedR := by
  refine cNeedR_law ?_
  intro t hw Λ1 Λ2 Λ3 Λ4 h1 h2 h3 h4
  unfold cNeedR_0
  refine ⟨trivial, ?_⟩
  by_cases h0 : validT t = 0
  · rw [if_neg (by simp [h0])]
    rw [if_pos h0, h0] at h1 h2 h3 h4
    have ht := validT_ok.1 h0
    have h8 := ht.1
    have hg10 := ht.2.1
    refine upto (n := t.length) (Q := fun k => Λ1 k (needK t k)) ?_ ?_ 0 (Nat.zero_le _)
    · apply h1; unfold cNeedR_1
      rw [if_neg (by simp)]
      exact ⟨rfl, rfl⟩
    · intro k hk ih
      apply h1; unfold cNeedR_1
      rw [if_pos (by simpa using hk)]
      have hin : inI ((k : Int) + 1) := by unfold inI; omega
      have hel := filt_nums_len (fun r => (nums t.length).any fun k => beatsB t k r) k
      unfold needK at ih
      rw [filt_nums_succ] at ih
      change (needK t k).length ≤ k at hel
      have hyes : (∃ i, i < t.length ∧ beatsB t (i : Int) k = true) → Λ1 ((k : Int) + 1) (needK t k ++ [(k : Int)]) := by
        rintro ⟨i, hi, hb⟩
        have hany : ((nums t.length).any fun q => beatsB t q (k : Int)) = true := List.any_eq_true.2 ⟨(i : Int), nums_mem.2 ⟨by omega, by omega⟩, hb⟩
        rw [if_pos hany] at ih
        exact ih
      have hno : (∀ i, i < t.length → beatsB t (i : Int) k = false) → Λ1 ((k : Int) + 1) (needK t k) := by
        intro hall
        have hany : ¬ ((nums t.length).any fun q => beatsB t q (k : Int)) = true := by
          rw [Bool.not_eq_true, List.any_eq_false]
          intro r hr
          have := nums_mem.1 hr
          have h2 := hall r.toNat (by omega)
          rw [show ((r.toNat : Nat) : Int) = r by omega] at h2
          rw [h2]; simp
        rw [if_neg hany] at ih
        exact ih
      have hkT : (0 : Int) ≤ k ∧ (k : Int) < t.length := ⟨by omega, by omega⟩
      have hrk := okT_row ht hk
      refine upto (n := t.length) (Q := fun i => (∀ j, j < i → beatsB t (j : Int) k = false) → Λ2 (needK t k) (k : Int) (i : Int)) ?_ ?_ 0 (Nat.zero_le _) (fun j hj => by omega)
      · intro ha
        apply h2; unfold cNeedR_2
        rw [if_neg (by simp)]
        exact ⟨hin, hno ha⟩
      · intro i hi ihi ha
        apply h2; unfold cNeedR_2
        rw [if_pos (by simpa using hi)]
        have hin2 : inI ((i : Int) + 1) := by unfold inI; omega
        have hiT : (0 : Int) ≤ i ∧ (i : Int) < t.length := ⟨by omega, by omega⟩
        have hri := okT_row ht hi
        have hnx : beatsB t (i : Int) k = false → Λ2 (needK t k) (k : Int) ((i : Int) + 1) := fun h => ihi fun j hj => by
          rcases Nat.lt_or_ge j i with q | q
          · exact ha j q
          · obtain rfl : j = i := by omega
            exact h
        by_cases e : (i : Int) = (k : Int)
        · rw [if_pos (by simpa using e)]
          exact ⟨hin2, hnx (by unfold beatsB; simp [e])⟩
        · rw [if_neg (by simpa using e)]
          have hbe := beats_eq ht hiT hkT
          rw [show (!((i : Int) == (k : Int))) = true by simpa using e, Bool.true_and] at hbe
          refine upto (n := goals8 t) (Q := fun g => Λ3 (i : Int) (needK t k) (k : Int) ((cntM t i k g : Nat) : Int) ((cntL t i k g : Nat) : Int) (g : Int)) ?_ ?_ 0 (Nat.zero_le _)
          · apply h3; unfold cNeedR_3
            refine ⟨trivial, ?_⟩
            rw [if_neg (by simp)]
            generalize cntM t i k (goals8 t) = M at hbe ⊢
            generalize cntL t i k (goals8 t) = L at hbe ⊢
            have hap : (needK t k).length + 1 ≤ 4294967296 := by omega
            by_cases l0 : L = 0
            · rw [if_pos (by simpa using l0)]
              by_cases m0 : M > 0
              · rw [if_pos (by simpa using m0)]
                refine ⟨rfl, trivial, ?_⟩
                rw [if_pos (by rfl)]
                exact ⟨hap, hin, hyes ⟨i, hi, by rw [hbe]; simp [l0, m0]⟩⟩
              · rw [if_neg (by simpa using m0)]
                refine ⟨trivial, trivial, ?_⟩
                by_cases lt : (i : Int) < (k : Int)
                · rw [if_pos (by simpa using lt)]
                  exact ⟨hap, hin, hyes ⟨i, hi, by rw [hbe]; simp [l0, m0]; omega⟩⟩
                · rw [if_neg (by simpa using lt)]
                  exact ⟨hin2, hnx (by rw [hbe]; simp [l0, m0]; omega)⟩
            · rw [if_neg (by simpa using l0)]
              exact ⟨rfl, hin2, hnx (by rw [hbe]; simp [l0])⟩
          · intro g hg ihg
            rw [cntM_succ, cntL_succ] at ihg
            have hM := cntM_le t i k g
            have hL := cntL_le t i k g
            have hing : inI ((g : Int) + 1) := by unfold inI; omega
            have gi : idx (g : Int) ((t.getD i []).length : Int) := ⟨by omega, by omega⟩
            have gk : idx (g : Int) ((t.getD k []).length : Int) := ⟨by omega, by omega⟩
            have ei : valT t i g = (t.getD i []).getD g 0 := by unfold valT; rw [Int.toNat_natCast]
            have ek : valT t k g = (t.getD k []).getD g 0 := by unfold valT; rw [Int.toNat_natCast]
            rw [ei, ek] at ihg
            have h4' : ∀ M : Int, (((t.getD i []).getD g 0 < (t.getD k []).getD g 0 → Λ3 (i : Int) (needK t k) (k : Int) M ((cntL t i k g : Nat) + 1 : Int) ((g : Int) + 1)) ∧ (¬ (t.getD i []).getD g 0 < (t.getD k []).getD g 0 → Λ3 (i : Int) (needK t k) (k : Int) M ((cntL t i k g : Nat) : Int) ((g : Int) + 1))) → Λ4 (g : Int) (i : Int) ((cntL t i k g : Nat) : Int) (needK t k) (k : Int) M := by
              intro M hM
              apply h4; unfold cNeedR_4
              rw [Int.toNat_natCast, Int.toNat_natCast, Int.toNat_natCast]
              refine ⟨idx_nat hi, gi, idx_nat hk, gk, ?_⟩
              by_cases lt : (t.getD i []).getD g 0 < (t.getD k []).getD g 0
              · rw [if_pos (by simpa using lt)]
                exact ⟨by unfold inI; omega, hing, hM.1 lt⟩
              · rw [if_neg (by simpa using lt)]
                exact ⟨hing, hM.2 lt⟩
            apply h3; unfold cNeedR_3
            refine ⟨trivial, ?_⟩
            rw [if_pos (by simpa using hg), Int.toNat_natCast, Int.toNat_natCast, Int.toNat_natCast]
            refine ⟨idx_nat hi, gi, idx_nat hk, gk, ?_⟩
            by_cases gt : (t.getD i []).getD g 0 > (t.getD k []).getD g 0
            · rw [if_pos (by simpa using gt)]
              rw [if_pos gt, if_neg (by omega)] at ihg
              exact ⟨by unfold inI; omega, h4' _ ⟨fun lt => absurd lt (by omega), fun _ => ihg⟩⟩
            · rw [if_neg (by simpa using gt)]
              rw [if_neg gt] at ihg
              refine h4' _ ⟨fun lt => ?_, fun lt => ?_⟩
              · rw [if_pos lt] at ihg; exact ihg
              · rw [if_neg lt] at ihg; exact ihg
  · rw [if_pos (by simp [h0]), if_neg h0]
    exact ⟨rfl, rfl⟩
abbrev cEssentialsL : Con := { A := (.cons (.sl (.sl .int)) .nil), R := (.cons .bool .nil), pre := fun x => True, F := fun x => (true, ()) }
def cEssentialsL_0 (Λ1 : Int → Prop) (t : (List (List Int))) (y0 : Bool) : Prop :=
  True ∧ (if (longT t) = true then (True ∧ (true = y0 ∧ True)) else (True ∧ (True ∧ (True ∧ (True ∧ (True ∧ (if (!(decide (((if validT t = 0 then essT t else [])) = ((if validT t = 0 then essT t else []))))) = true then (true = true ∧ (true = true ∧ (true = true ∧ (false = y0 ∧ True)))) else (True ∧ (if (bif false then true else ((validT t) != (validT t))) = true then (true = true ∧ (true = true ∧ (false = y0 ∧ True))) else (True ∧ (True ∧ (if (bif false then true else (!(decide (((if validT t = 0 then needT t else [])) = ((if validT t = 0 then needT t else [])))))) = true then (true = true ∧ (false = y0 ∧ True)) else (True ∧ (if (bif false then true else ((validT t) != (validT t))) = true then (false = y0 ∧ True) else Λ1 (0 : Int)))))))))))))))
def cEssentialsL_1 (Λ1 : Int → Prop) (t : (List (List Int))) (y0 : Bool)  (i_1 : Int) : Prop :=
  if (decide (i_1 < (List.length ((if validT t = 0 then essT t else [])) : Int))) = true then (idx i_1 (List.length ((if validT t = 0 then essT t else [])) : Int) ∧ (True ∧ (if (decide ((List.getD ((if validT t = 0 then essT t else [])) (Int.toNat i_1) 0) ∈ ((if validT t = 0 then needT t else [])))) = true then (false = y0 ∧ True) else (inI (i_1 + (1 : Int)) ∧ Λ1 (i_1 + (1 : Int)))))) else (True ∧ (true = y0 ∧ True))
theorem cEssentialsL_law (h : ∀ (t : (List (List Int))), cEssentialsL.A.wf (t, ()) → ∀ (Λ1 : Int → Prop), (∀ (i_1 : Int), cEssentialsL_1 Λ1 t true i_1 → Λ1 i_1) → cEssentialsL_0 Λ1 t true) : ConOK Go.Proofs.Try.prog 4 cEssentialsL := by
  refine lawL (Γ := [(23, cEssR), (22, cEssential), (26, cHasL8), (17, cLong8), (25, cNeedR), (24, cNeedless), (21, cSameI8), (18, cSane8)]) (Θ := Th) (n := 68) [([1, 1, 1, 1, 1, 1, 1, 0, 1, 0], ⟨[(3, true), (7, true), (11, true)], [(17, true), (27, true)]⟩)] ⟨cEssR_ok, cEssential_ok, cHasL8_ok, cLong8_ok, cNeedR_ok, cNeedless_ok, cSameI8_ok, cSane8_ok, trivial⟩ (by kernel_rfl) th_ok mix_ok Go.Proofs.Try.func4 (by kernel_rfl) ?_
  intro x hw hp Λ hC
  have h0 := h x.1 hw (fun i_1 => Λ [1, 1, 1, 1, 1, 1, 1, 0, 1, 0] ([(3, .own 17 0), (7, .own 27 0), (11, .d true .int i_1)], [(17, .sl true .int ((if validT x.1 = 0 then essT x.1 else []))), (27, .sl true .int ((if validT x.1 = 0 then needT x.1 else [])))])) (fun i_1 hb => hC [1, 1, 1, 1, 1, 1, 1, 0, 1, 0] ([(3, .own 17 0), (7, .own 27 0), (11, .d true .int i_1)], [(17, .sl true .int ((if validT x.1 = 0 then essT x.1 else []))), (27, .sl true .int ((if validT x.1 = 0 then needT x.1 else [])))]) (Eq.mpr (by kernel_rfl) hb))
  exact Eq.mpr (by kernel_rfl) h0
theorem cEssentialsL_ok : ConOK Go.Proofs.Try.prog 4 cEssentialsL := by
  refine cEssentialsL_law ?_
  intro t hw Λ1 h1
  unfold cEssentialsL_0
  refine ⟨trivial, ?_⟩
  cases hL : longT t
  · rw [if_neg (by simp)]
    refine ⟨trivial, trivial, trivial, trivial, trivial, ?_⟩
    rw [if_neg (by simp)]
    refine ⟨trivial, ?_⟩
    rw [if_neg (by simp)]
    refine ⟨trivial, trivial, ?_⟩
    rw [if_neg (by simp)]
    refine ⟨trivial, ?_⟩
    rw [if_neg (by simp)]
    have hlen : ((if validT t = 0 then essT t else []) : List Int).length ≤ 50 := by
      split
      · have := filt_nums_len (fun r => !coverB t (others t r)) t.length
        have h50 := (longT_no hL).1
        show (essT t).length ≤ 50
        unfold essT
        omega
      · simp
    have hdis : ∀ r, r ∈ ((if validT t = 0 then essT t else []) : List Int) → ¬ r ∈ ((if validT t = 0 then needT t else []) : List Int) := by
      intro r hr
      split at hr
      · rename_i h; rw [if_pos h]; exact ess_not_need hr
      · simp at hr
    refine upto (n := ((if validT t = 0 then essT t else []) : List Int).length) (Q := fun i => Λ1 i) ?_ ?_ 0 (Nat.zero_le _)
    · apply h1; unfold cEssentialsL_1
      rw [if_neg (by simp)]
      exact ⟨trivial, rfl, trivial⟩
    · intro i hi ih
      apply h1; unfold cEssentialsL_1
      rw [if_pos (by simpa using hi), Int.toNat_natCast]
      have hd := hdis _ (mem_getD (d := 0) hi)
      refine ⟨idx_nat hi, trivial, ?_⟩
      rw [if_neg (by rw [decide_eq_true_eq]; exact hd)]
      exact ⟨by unfold inI; omega, ih⟩
  · rw [if_pos rfl]
    exact ⟨trivial, rfl, trivial⟩
end Go.Tk
/- Plain facts of layer 8: the order with the smallest wait. No program in sight. -/
set_option linter.unusedSimpArgs false
set_option linter.unusedVariables false
set_option linter.unnecessarySimpa false
namespace Go.Tk
open Go Go.RowKit

def unmet (t : Ste) (pre : List Int) (g : Int) : Bool := !(pre.any fun r => hits t r g.toNat)
/-- How many goals are still waited for behind these rows. -/
def leftT (t : Ste) (pre : List Int) : Nat := ((openL t).filter (unmet t pre)).length
def restL (t : Ste) (pre : List Int) : List Int := (nums t.length).filter fun r => !decide (r ∈ pre)
def stepM (st x : List Int × Int) : List Int × Int := if x.2 < st.2 then x else st
def minB : List (List Int × Int) → List Int × Int
  | [] => ([], 0)
  | x :: c => c.foldl stepM x
/-- The first order of the rest with the smallest wait, and this wait. -/
def bestK (t : Ste) : Nat → List Int → List Int × Int
  | 0, _ => ([], 0)
  | k + 1, pre => minB ((restL t pre).map fun r => (r :: (bestK t k (pre ++ [r])).1, (leftT t pre : Int) + (bestK t k (pre ++ [r])).2))
def sumW (t : Ste) : List Int → List Int → Int
  | _, [] => 0
  | pre, r :: o => (leftT t pre : Int) + sumW t (pre ++ [r]) o

theorem filt_split {α : Type} (p : α → Bool) : ∀ l : List α, l.length = (l.filter p).length + (l.filter fun x => !p x).length
  | [] => rfl
  | a :: l => by
    have := filt_split p l
    cases h : p a <;> simp [h] <;> omega
theorem left_met {t : Ste} {pre : List Int} (h : inT t pre) : ((openL t).length : Int) - ((metL t pre).length : Int) = (leftT t pre : Int) := by
  have h1 : (openL t).length = ((openL t).filter fun g => pre.any fun r => hits t r g.toNat).length + (leftT t pre) := by
    unfold leftT unmet
    exact filt_split (fun g : Int => pre.any fun r => hits t r g.toNat) _
  have h2 : ((openL t).filter fun g => pre.any fun r => hits t r g.toNat).length = (metL t pre).length := by
    unfold openL
    rw [metL_length]
    unfold metL
    rw [List.filter_map, List.length_map, List.filter_filter]
    congr 1
    refine filt_congr fun g hg => ?_
    simp only [Function.comp, Bool.and_eq_left_iff_imp]
    rw [show (Int.ofNat g).toNat = g from rfl, Bool.eq_iff_iff]
    constructor
    · intro q
      exact (Bool.and_eq_true _ _ ▸ q).1
    · intro q
      rw [Bool.and_eq_true]
      refine ⟨q, ?_⟩
      obtain ⟨r, hr, e⟩ := List.any_eq_true.1 q
      exact List.any_eq_true.2 ⟨r, nums_mem.2 (h r hr), e⟩
  omega
theorem rest_mem {t : Ste} {pre : List Int} {r : Int} : r ∈ restL t pre ↔ (0 ≤ r ∧ r < t.length) ∧ ¬ r ∈ pre := by
  unfold restL
  rw [List.mem_filter, nums_mem]
  simp
theorem rest_congr {t : Ste} {p q : List Int} (h : ∀ x, x ∈ p ↔ x ∈ q) : restL t p = restL t q := by
  unfold restL
  exact filt_congr fun x _ => by simp [h x]
theorem left_congr {t : Ste} {p q : List Int} (h : ∀ x, x ∈ p ↔ x ∈ q) : leftT t p = leftT t q := by
  unfold leftT
  congr 1
  refine filt_congr fun g _ => ?_
  unfold unmet
  congr 1
  rw [Bool.eq_iff_iff, List.any_eq_true, List.any_eq_true]
  exact ⟨fun ⟨r, hr, e⟩ => ⟨r, (h r).1 hr, e⟩, fun ⟨r, hr, e⟩ => ⟨r, (h r).2 hr, e⟩⟩
theorem best_congr {t : Ste} : ∀ (k : Nat) {p q : List Int}, (∀ x, x ∈ p ↔ x ∈ q) → bestK t k p = bestK t k q
  | 0, _, _, _ => rfl
  | k + 1, p, q, h => by
    unfold bestK
    rw [rest_congr h, left_congr h]
    congr 1
    refine List.map_congr_left fun r _ => ?_
    rw [best_congr k (p := p ++ [r]) (q := q ++ [r]) (fun x => by simp [h x])]

theorem nums_nodup (n : Nat) : (nums n).Nodup := by
  unfold nums
  exact List.Pairwise.map _ (fun a b h e => h (Int.ofNat.inj e)) List.nodup_range
theorem rest_nodup (t : Ste) (pre : List Int) : (restL t pre).Nodup := (nums_nodup _).sublist List.filter_sublist
theorem rest_snoc (t : Ste) (pre : List Int) (r : Int) : restL t (pre ++ [r]) = (restL t pre).filter fun x => !(x == r) := by
  unfold restL
  rw [List.filter_filter]
  refine filt_congr fun x _ => ?_
  rw [Bool.eq_iff_iff]
  simp [not_or, and_comm]
theorem rest_len {t : Ste} {pre : List Int} {r : Int} (h : r ∈ restL t pre) : (restL t (pre ++ [r])).length + 1 = (restL t pre).length := by
  rw [rest_snoc]
  have h1 := filt_split (fun x => x == r) (restL t pre)
  have h2 : ((restL t pre).filter fun x => x == r).length = 1 := by
    rw [← List.countP_eq_length_filter]
    have := List.Nodup.count (rest_nodup t pre) (a := r)
    rw [if_pos h] at this
    exact this
  omega

/-! ### The first least one of a list -/
theorem fold_le : ∀ (c : List (List Int × Int)) (st : List Int × Int), (c.foldl stepM st).2 ≤ st.2 ∧ ∀ x ∈ c, (c.foldl stepM st).2 ≤ x.2
  | [], st => ⟨Int.le_refl _, by simp⟩
  | a :: c, st => by
    obtain ⟨h1, h2⟩ := fold_le c (stepM st a)
    have h3 : (stepM st a).2 ≤ st.2 ∧ (stepM st a).2 ≤ a.2 := by unfold stepM; split <;> omega
    rw [List.foldl_cons]
    refine ⟨by omega, fun x hx => ?_⟩
    rcases List.mem_cons.1 hx with rfl | hx
    · omega
    · exact h2 x hx
theorem fold_mem : ∀ (c : List (List Int × Int)) (st : List Int × Int), c.foldl stepM st = st ∨ c.foldl stepM st ∈ c
  | [], st => .inl rfl
  | a :: c, st => by
    rw [List.foldl_cons]
    rcases fold_mem c (stepM st a) with h | h
    · rw [h]; unfold stepM; split
      · exact .inr (by simp)
      · exact .inl rfl
    · exact .inr (by simp [h])
theorem fold_min : ∀ (c : List (List Int × Int)) (st : List Int × Int), c ≠ [] → c.foldl stepM st = stepM st (minB c)
  | [], _, h => absurd rfl h
  | [a], st, _ => rfl
  | a :: b :: c, st, _ => by
    have h1 := fold_min (b :: c) (stepM st a) (by simp)
    have h2 := fold_min (b :: c) a (by simp)
    have h3 : minB (a :: b :: c) = (b :: c).foldl stepM a := rfl
    rw [List.foldl_cons, h1, h3, h2]
    generalize minB (b :: c) = m
    unfold stepM
    by_cases g1 : a.2 < st.2
    · rw [if_pos g1]
      by_cases g2 : m.2 < a.2
      · rw [if_pos g2, if_pos (by omega)]
      · rw [if_neg g2, if_pos g1]
    · rw [if_neg g1]
      by_cases g2 : m.2 < a.2
      · rw [if_pos g2]
      · rw [if_neg g2, if_neg g1, if_neg (by omega)]
theorem minB_mem {c : List (List Int × Int)} (h : c ≠ []) : minB c ∈ c := by
  cases c with
  | nil => exact absurd rfl h
  | cons a c =>
    show c.foldl stepM a ∈ a :: c
    rcases fold_mem c a with e | e
    · rw [e]; simp
    · simp [e]
theorem minB_le {c : List (List Int × Int)} {x : List Int × Int} (h : x ∈ c) : (minB c).2 ≤ x.2 := by
  cases c with
  | nil => cases h
  | cons a c =>
    obtain ⟨h1, h2⟩ := fold_le c a
    rcases List.mem_cons.1 h with rfl | h
    · exact h1
    · exact h2 x h
theorem minB_first {a : List Int × Int} {c : List (List Int × Int)} (h : a.2 ≤ (minB (a :: c)).2) : minB (a :: c) = a := by
  cases c with
  | nil => rfl
  | cons b c =>
    have h1 : minB (a :: b :: c) = stepM a (minB (b :: c)) := fold_min (b :: c) a (by simp)
    rw [h1] at h ⊢
    unfold stepM at h ⊢
    split
    · rename_i g
      rw [if_pos g] at h; omega
    · rfl
/-- Behind some rows, with what they waited. -/
def shB (pre : List Int) (sum : Int) (x : List Int × Int) : List Int × Int := (pre ++ x.1, sum + x.2)
theorem stepM_sh (pre : List Int) (sum : Int) (a x : List Int × Int) : stepM (shB pre sum a) (shB pre sum x) = shB pre sum (stepM a x) := by
  unfold stepM shB
  by_cases h : x.2 < a.2
  · rw [if_pos h, if_pos (by simp; omega)]
  · rw [if_neg h, if_neg (by simp; omega)]
theorem fold_sh (pre : List Int) (sum : Int) : ∀ (c : List (List Int × Int)) (a : List Int × Int), (c.map (shB pre sum)).foldl stepM (shB pre sum a) = shB pre sum (c.foldl stepM a)
  | [], _ => rfl
  | x :: c, a => by
    rw [List.map_cons, List.foldl_cons, List.foldl_cons, stepM_sh, fold_sh pre sum c]
theorem minB_sh (pre : List Int) (sum : Int) {c : List (List Int × Int)} (h : c ≠ []) : minB (c.map (shB pre sum)) = shB pre sum (minB c) := by
  cases c with
  | nil => exact absurd rfl h
  | cons a c => exact fold_sh pre sum c a

/-! ### What the search does -/
/-- What a call of the search makes of the best order and its wait. -/
def growT (t : Ste) (k : Nat) (pre : List Int) (sum : Int) (st : List Int × Int) : List Int × Int := stepM st (shB pre sum (bestK t k pre))
theorem best_pos (t : Ste) : ∀ (k : Nat) (pre : List Int), 0 ≤ (bestK t k pre).2
  | 0, _ => Int.le_refl _
  | k + 1, pre => by
    unfold bestK
    by_cases h : (restL t pre).map (fun r => (r :: (bestK t k (pre ++ [r])).1, (leftT t pre : Int) + (bestK t k (pre ++ [r])).2)) = []
    · rw [h]; exact Int.le_refl _
    · obtain ⟨r, _, e⟩ := List.mem_map.1 (minB_mem h)
      rw [← e]
      have := best_pos t k (pre ++ [r])
      show 0 ≤ _ + _
      omega
theorem best_left (t : Ste) {k : Nat} {pre : List Int} (h : restL t pre ≠ []) : (leftT t pre : Int) ≤ (bestK t (k + 1) pre).2 := by
  unfold bestK
  have hne : (restL t pre).map (fun r => (r :: (bestK t k (pre ++ [r])).1, (leftT t pre : Int) + (bestK t k (pre ++ [r])).2)) ≠ [] := by simpa using h
  obtain ⟨r, _, e⟩ := List.mem_map.1 (minB_mem hne)
  rw [← e]
  have := best_pos t k (pre ++ [r])
  show _ ≤ _ + _
  omega
theorem grow_cut {t : Ste} {k : Nat} {pre : List Int} {sum : Int} {st : List Int × Int} (hr : restL t pre ≠ []) (h : st.2 ≤ sum + leftT t pre) : growT t (k + 1) pre sum st = st := by
  have := best_left t (k := k) hr
  unfold growT stepM shB
  rw [if_neg (by simp; omega)]
theorem grow_end (t : Ste) (pre : List Int) (sum : Int) (st : List Int × Int) : growT t 0 pre sum st = if sum < st.2 then (pre, sum) else st := by
  unfold growT stepM shB bestK
  simp
/-- The loop over the rows. -/
def growK (t : Ste) (k : Nat) (pre : List Int) (sum : Int) (st : List Int × Int) (i : Nat) : List Int × Int :=
  ((nums i).filter fun r => !decide (r ∈ pre)).foldl (fun s r => growT t k (pre ++ [r]) (sum + leftT t pre) s) st
theorem growK_succ (t : Ste) (k : Nat) (pre : List Int) (sum : Int) (st : List Int × Int) (i : Nat) : growK t k pre sum st (i + 1) = if (i : Int) ∈ pre then growK t k pre sum st i else growT t k (pre ++ [(i : Int)]) (sum + leftT t pre) (growK t k pre sum st i) := by
  unfold growK
  rw [nums_succ, List.filter_append, List.foldl_append]
  by_cases h : (i : Int) ∈ pre <;> simp [h]
theorem growK_all {t : Ste} {k : Nat} {pre : List Int} {sum : Int} {st : List Int × Int} (hr : restL t pre ≠ []) : growK t k pre sum st t.length = growT t (k + 1) pre sum st := by
  have h1 : growK t k pre sum st t.length = ((restL t pre).map fun r => shB pre sum (r :: (bestK t k (pre ++ [r])).1, (leftT t pre : Int) + (bestK t k (pre ++ [r])).2)).foldl stepM st := by
    rw [List.foldl_map]
    unfold growK restL
    congr 1
    funext s r
    unfold growT shB
    simp only [List.append_assoc, List.cons_append, List.nil_append]
    rw [Int.add_assoc]
  have hne : (restL t pre).map (fun r => (r :: (bestK t k (pre ++ [r])).1, (leftT t pre : Int) + (bestK t k (pre ++ [r])).2)) ≠ [] := by simpa using hr
  have h2 : ((restL t pre).map fun r => shB pre sum (r :: (bestK t k (pre ++ [r])).1, (leftT t pre : Int) + (bestK t k (pre ++ [r])).2)) = ((restL t pre).map fun r => (r :: (bestK t k (pre ++ [r])).1, (leftT t pre : Int) + (bestK t k (pre ++ [r])).2)).map (shB pre sum) := by
    rw [List.map_map]; rfl
  rw [h1, h2, fold_min _ _ (by simpa using hne), minB_sh _ _ hne]
  rfl

/-! ### The best order is one, and none waits less -/
theorem rest_erase {t : Ste} {pre : List Int} {r : Int} : restL t (pre ++ [r]) = (restL t pre).erase r := by
  rw [rest_snoc, List.Nodup.erase_eq_filter (rest_nodup t pre)]
  rfl
theorem best_perm {t : Ste} : ∀ (k : Nat) (pre : List Int), (restL t pre).length = k → (bestK t k pre).1.Perm (restL t pre) ∧ (bestK t k pre).2 = sumW t pre (bestK t k pre).1
  | 0, pre, h => by
    rw [List.length_eq_zero_iff.1 h]
    exact ⟨.nil, rfl⟩
  | k + 1, pre, h => by
    have hne : (restL t pre).map (fun r => (r :: (bestK t k (pre ++ [r])).1, (leftT t pre : Int) + (bestK t k (pre ++ [r])).2)) ≠ [] := by
      intro e
      rw [List.map_eq_nil_iff] at e
      rw [e] at h; simp at h
    obtain ⟨r, hr, e⟩ := List.mem_map.1 (minB_mem hne)
    have h1 := rest_len hr
    obtain ⟨i1, i2⟩ := best_perm (t := t) k (pre ++ [r]) (by omega)
    have e2 : bestK t (k + 1) pre = (r :: (bestK t k (pre ++ [r])).1, (leftT t pre : Int) + (bestK t k (pre ++ [r])).2) := e.symm
    rw [e2]
    constructor
    · show (r :: (bestK t k (pre ++ [r])).1).Perm _
      rw [rest_erase] at i1
      exact (i1.cons r).trans (List.perm_cons_erase hr).symm
    · show _ + _ = (leftT t pre : Int) + sumW t (pre ++ [r]) _
      rw [← i2]
theorem best_least {t : Ste} : ∀ (k : Nat) (pre o : List Int), (restL t pre).length = k → o.Perm (restL t pre) → (bestK t k pre).2 ≤ sumW t pre o
  | 0, pre, o, h, hp => by
    rw [List.length_eq_zero_iff.1 h] at hp
    rw [hp.eq_nil]
    exact Int.le_refl _
  | k + 1, pre, [], h, hp => by
    rw [← hp.nil_eq] at h; simp at h
  | k + 1, pre, r :: o, h, hp => by
    have hr : r ∈ restL t pre := hp.subset (by simp)
    have h1 := rest_len hr
    have h2 : o.Perm (restL t (pre ++ [r])) := by
      rw [rest_erase]
      exact List.Perm.cons_inv (hp.trans (List.perm_cons_erase hr))
    have i1 := best_least (t := t) k (pre ++ [r]) o (by omega) h2
    have h3 : (bestK t (k + 1) pre).2 ≤ (leftT t pre : Int) + (bestK t k (pre ++ [r])).2 :=
      minB_le (x := (r :: (bestK t k (pre ++ [r])).1, (leftT t pre : Int) + (bestK t k (pre ++ [r])).2)) (List.mem_map.2 ⟨r, hr, rfl⟩)
    show _ ≤ (leftT t pre : Int) + sumW t (pre ++ [r]) o
    omega
theorem best_first {t : Ste} : ∀ (k : Nat) (pre : List Int), (restL t pre).length = k → (bestK t k pre).2 = sumW t pre (restL t pre) → (bestK t k pre).1 = restL t pre
  | 0, pre, h, _ => by
    rw [List.length_eq_zero_iff.1 h]; rfl
  | k + 1, pre, h, he => by
    cases hrest : restL t pre with
    | nil => rw [hrest] at h; simp at h
    | cons r rs =>
      have hr : r ∈ restL t pre := by rw [hrest]; simp
      have h1 := rest_len hr
      have h2 : restL t (pre ++ [r]) = rs := by
        rw [rest_erase, hrest, List.erase_cons_head]
      have i1 := best_least (t := t) k (pre ++ [r]) rs (by omega) (by rw [h2])
      have e1 : bestK t (k + 1) pre = minB ((r :: (bestK t k (pre ++ [r])).1, (leftT t pre : Int) + (bestK t k (pre ++ [r])).2) :: rs.map fun r => (r :: (bestK t k (pre ++ [r])).1, (leftT t pre : Int) + (bestK t k (pre ++ [r])).2)) := by
        show minB ((restL t pre).map _) = _
        rw [hrest]; rfl
      rw [hrest] at he
      have he : (bestK t (k + 1) pre).2 = (leftT t pre : Int) + sumW t (pre ++ [r]) rs := he
      have hx : ((leftT t pre : Int) + (bestK t k (pre ++ [r])).2) ≤ (bestK t (k + 1) pre).2 := by omega
      have e2 := minB_first (a := (r :: (bestK t k (pre ++ [r])).1, (leftT t pre : Int) + (bestK t k (pre ++ [r])).2)) (c := rs.map fun r => (r :: (bestK t k (pre ++ [r])).1, (leftT t pre : Int) + (bestK t k (pre ++ [r])).2)) (by rw [← e1]; exact hx)
      rw [← e1] at e2
      have e3 : (bestK t k (pre ++ [r])).2 = sumW t (pre ++ [r]) rs := by
        rw [e2] at he
        have he : (leftT t pre : Int) + (bestK t k (pre ++ [r])).2 = (leftT t pre : Int) + sumW t (pre ++ [r]) rs := he
        omega
      have i2 := best_first (t := t) k (pre ++ [r]) (by omega) (by rw [h2]; exact e3)
      rw [e2]
      show r :: (bestK t k (pre ++ [r])).1 = _
      rw [i2, h2]

/-! ### The wait of an order -/
theorem sum_hit {t : Ste} {r : Int} : ∀ (l : List Int) (f : Int → Int), (∀ g, 0 ≤ f g) → (l.map fun g => if hits t r g.toNat = true then (1 : Int) else 1 + f g).sum = l.length + ((l.filter fun g => !hits t r g.toNat).map f).sum
  | [], f, _ => rfl
  | g :: l, f, hf => by
    have i := sum_hit (t := t) (r := r) l f hf
    rw [List.map_cons, List.sum_cons, i]
    cases h : hits t r g.toNat <;> simp [h] <;> omega
theorem idx_cons {α : Type} (p : α → Bool) (a : α) (l : List α) (h : p a = true ∨ l.any p = true) : idxF p (a :: l) = if p a = true then 0 else 1 + idxF p l := by
  unfold idxF
  rw [List.findIdx?_cons]
  cases hp : p a
  · have hl : l.any p = true := by
      rcases h with h | h
      · rw [hp] at h; cases h
      · exact h
    cases hf : l.findIdx? p with
    | none =>
      rw [List.findIdx?_eq_none_iff] at hf
      obtain ⟨x, hx, e⟩ := List.any_eq_true.1 hl
      rw [hf x hx] at e; cases e
    | some i => simp; omega
  · simp
theorem wait_sum {t : Ste} : ∀ (o pre : List Int), (∀ g ∈ (openL t).filter (unmet t pre), o.any (fun r => hits t r g.toNat) = true) → (((openL t).filter (unmet t pre)).map (waitG t o)).sum = sumW t pre o
  | [], pre, h => by
    cases hl : (openL t).filter (unmet t pre) with
    | nil => rfl
    | cons g l =>
      have := h g (by rw [hl]; simp)
      simp at this
  | r :: o, pre, h => by
    have h1 : (openL t).filter (unmet t (pre ++ [r])) = ((openL t).filter (unmet t pre)).filter fun g => !hits t r g.toNat := by
      rw [List.filter_filter]
      refine filt_congr fun g _ => ?_
      unfold unmet
      rw [List.any_append]
      cases (pre.any fun r => hits t r g.toNat) <;> simp
    have i := wait_sum o (pre ++ [r]) (by
      intro g hg
      rw [h1, List.mem_filter] at hg
      have := h g hg.1
      rw [List.any_cons] at this
      have h2 := hg.2
      cases hh : hits t r g.toNat
      · rw [hh] at this; simpa using this
      · rw [hh] at h2; simp at h2)
    show _ = (leftT t pre : Int) + sumW t (pre ++ [r]) o
    rw [← i, h1]
    unfold leftT
    rw [← sum_hit (t := t) (r := r) _ (waitG t o) (fun g => by unfold waitG; have := (idxF_bound (fun r => hits t r g.toNat) o).1; omega)]
    congr 1
    refine List.map_congr_left fun g hg => ?_
    have := h g hg
    rw [List.any_cons, Bool.or_eq_true] at this
    unfold waitG
    rw [idx_cons _ _ _ this]
    split <;> omega
theorem open_hit {t : Ste} {g : Int} (h : g ∈ openL t) : (nums t.length).any (fun r => hits t r g.toNat) = true := by
  unfold openL metL at h
  simp only [List.mem_map, List.mem_filter, List.mem_range, Int.ofNat_eq_natCast] at h
  obtain ⟨a, ⟨_, h1⟩, rfl⟩ := h
  exact h1
theorem any_perm {α : Type} {p : α → Bool} {a b : List α} (h : a.Perm b) : a.any p = b.any p := by
  rw [Bool.eq_iff_iff, List.any_eq_true, List.any_eq_true]
  exact ⟨fun ⟨x, hx, e⟩ => ⟨x, h.mem_iff.1 hx, e⟩, fun ⟨x, hx, e⟩ => ⟨x, h.mem_iff.2 hx, e⟩⟩
theorem unmet_nil (t : Ste) : (openL t).filter (unmet t []) = openL t := by
  rw [List.filter_eq_self]
  intro g _
  rfl
theorem waitL_sum {t : Ste} {o : List Int} (h : o.Perm (nums t.length)) : waitL t o = sumW t [] o := by
  rw [← wait_sum o [], unmet_nil]
  · rfl
  · intro g hg
    rw [unmet_nil] at hg
    rw [any_perm h]
    exact open_hit hg
theorem rest_nil (t : Ste) : restL t [] = nums t.length := by
  unfold restL
  rw [List.filter_eq_self]
  simp
/-- The answer of Best. -/
def bestT (t : Ste) : List Int × Int := bestK t t.length []
theorem rest_nil_len (t : Ste) : (restL t []).length = t.length := by rw [rest_nil, nums_len]
theorem bestT_perm (t : Ste) : (bestT t).1.Perm (nums t.length) := by
  have := (best_perm t.length [] (rest_nil_len t)).1
  rwa [rest_nil] at this
theorem bestT_wait (t : Ste) : (bestT t).2 = waitL t (bestT t).1 := by
  rw [waitL_sum (bestT_perm t)]
  exact (best_perm t.length [] (rest_nil_len t)).2
theorem bestT_least {t : Ste} {o : List Int} (h : o.Perm (nums t.length)) : (bestT t).2 ≤ waitL t o := by
  rw [waitL_sum h]
  exact best_least t.length [] o (rest_nil_len t) (by rw [rest_nil]; exact h)
theorem grow_best (t : Ste) : growT t t.length [] 0 (nums t.length, waitL t (nums t.length)) = bestT t := by
  have h1 := bestT_least (t := t) (o := nums t.length) (.refl _)
  unfold growT shB
  show stepM _ (([] : List Int) ++ (bestT t).1, (0 : Int) + (bestT t).2) = _
  rw [List.nil_append, Int.zero_add]
  unfold stepM
  split
  · rfl
  · rename_i h2
    have h2 : ¬ (bestT t).2 < waitL t (nums t.length) := h2
    have h3 : (bestT t).2 = waitL t (nums t.length) := by omega
    have h4 : (bestT t).1 = nums t.length := by
      have := best_first t.length [] (rest_nil_len t) (by rw [rest_nil, ← waitL_sum (.refl _)]; exact h3)
      rw [rest_nil] at this
      exact this
    rw [← h3, ← h4]
end Go.Tk
/- Plain facts of layer 8: the document's table of smallest waits. No program in sight. -/
set_option linter.unusedSimpArgs false
set_option linter.unusedVariables false
set_option linter.unnecessarySimpa false
namespace Go.Tk
open Go Go.RowKit

theorem bit_or (m k : Nat) (h : m < 1073741824) (hk : k < 30) : (IntKind.i64.wrap (BitVec.ofInt 64 (m : Int) ||| BitVec.ofInt 64 ((1 : Int) * 2 ^ k)).toNat) = ((m ||| 2 ^ k : Nat) : Int) := by
  have h2 : 2 ^ k < 1073741824 := Nat.pow_lt_pow_right (by omega) (show k < 30 from hk)
  have h3 : m ||| 2 ^ k < 1073741824 := Nat.or_lt_two_pow (n := 30) h h2
  have e : (1 : Int) * 2 ^ k = ((2 ^ k : Nat) : Int) := by rw [Int.one_mul]; simp
  rw [e]
  have : (BitVec.ofInt 64 (m : Int) ||| BitVec.ofInt 64 ((2 ^ k : Nat) : Int)).toNat = m ||| 2 ^ k := by
    generalize 2 ^ k = z at h2
    rw [show BitVec.ofInt 64 (m : Int) = BitVec.ofNat 64 m by simp, show BitVec.ofInt 64 (z : Int) = BitVec.ofNat 64 z by simp]
    rw [BitVec.toNat_or, BitVec.toNat_ofNat, BitVec.toNat_ofNat, Nat.mod_eq_of_lt (show m < 2 ^ 64 by omega), Nat.mod_eq_of_lt (show z < 2 ^ 64 by omega)]
  rw [this]
  exact wrap_in (by unfold inI; omega)

theorem pow_in {k : Nat} (h : k < 30) : inI ((1 : Int) * 2 ^ k) := by
  have h2 : 2 ^ k < 1073741824 := Nat.pow_lt_pow_right (by omega) (show k < 30 from h)
  have e : (1 : Int) * 2 ^ k = ((2 ^ k : Nat) : Int) := by rw [Int.one_mul]; simp
  rw [e]
  generalize 2 ^ k = z at h2
  unfold inI; omega
abbrev lstAt (least : List Int) (s r : Nat) : Int := least.getD (s ||| 2 ^ r) 0
def behT (t : Ste) (s r : Nat) (least : List Int) : Int :=
  if s.testBit r = true then -1 else (((metL t (setOf t.length s ++ [(r : Int)])).length : Int) - ((metL t (setOf t.length s)).length : Int)) * (((setOf t.length s).length : Int) + 1) + least.getD (s ||| 2 ^ r) 0
/-- The table's entry. -/
def lstT (t : Ste) (s : Nat) : Int := ((setOf t.length s).length : Int) * (leftT t (setOf t.length s) : Int) + (bestK t (restL t (setOf t.length s)).length (setOf t.length s)).2
/-- A row's offer, next after a set. -/
def offT (t : Ste) (pre : List Int) (r : Int) : Int := (leftT t pre : Int) + (bestK t (restL t (pre ++ [r])).length (pre ++ [r])).2

theorem setOf_mem_iff {n s : Nat} {r : Int} : r ∈ setOf n s ↔ (0 ≤ r ∧ r < n) ∧ s.testBit r.toNat = true := by
  unfold setOf
  rw [List.mem_filter, nums_mem]
theorem setOf_inT (t : Ste) (s : Nat) : inT t (setOf t.length s) := fun r hr => (setOf_mem_iff.1 hr).1
theorem setOf_nodup (n s : Nat) : (setOf n s).Nodup := (nums_nodup n).sublist List.filter_sublist
theorem left_bound {t : Ste} (h : okT t) (pre : List Int) : leftT t pre ≤ 10 := by
  have h1 : leftT t pre ≤ (openL t).length := by unfold leftT; exact List.length_filter_le ..
  have h2 := openL_len t
  have h3 := h.2.1
  omega
theorem best_bound {t : Ste} (h : okT t) : ∀ (k : Nat) (pre : List Int), (bestK t k pre).2 ≤ 10 * k
  | 0, _ => Int.le_refl _
  | k + 1, pre => by
    unfold bestK
    by_cases hr : (restL t pre).map (fun r => (r :: (bestK t k (pre ++ [r])).1, (leftT t pre : Int) + (bestK t k (pre ++ [r])).2)) = []
    · rw [hr]; show (0 : Int) ≤ _; omega
    · obtain ⟨r, _, e⟩ := List.mem_map.1 (minB_mem hr)
      rw [← e]
      have h1 := best_bound h k (pre ++ [r])
      have h2 := left_bound h pre
      show _ + _ ≤ _
      omega
theorem rest_len_le (t : Ste) (pre : List Int) : (restL t pre).length ≤ t.length := by
  unfold restL
  exact Nat.le_trans (List.length_filter_le ..) (by rw [nums_len]; exact Nat.le_refl _)
theorem lst_bound {t : Ste} (h : okT t) (s : Nat) : 0 ≤ lstT t s ∧ lstT t s ≤ 1000 := by
  have h1 := best_bound h (restL t (setOf t.length s)).length (setOf t.length s)
  have h2 := best_pos t (restL t (setOf t.length s)).length (setOf t.length s)
  have h3 := rest_len_le t (setOf t.length s)
  have h4 := h.1
  have h5 := setOf_len t.length s
  have h6 := left_bound h (setOf t.length s)
  have h7 : (setOf t.length s).length * leftT t (setOf t.length s) ≤ 8 * 10 := Nat.mul_le_mul (by omega) h6
  have h8 : ((setOf t.length s).length : Int) * (leftT t (setOf t.length s) : Int) = (((setOf t.length s).length * leftT t (setOf t.length s) : Nat) : Int) := by simp
  unfold lstT
  rw [h8]
  omega
theorem or_mem {t : Ste} {s r : Nat} (hr : r < t.length) (x : Int) : x ∈ setOf t.length (s ||| 2 ^ r) ↔ x ∈ setOf t.length s ++ [(r : Int)] := by
  rw [List.mem_append, setOf_mem_iff, setOf_mem_iff, List.mem_singleton, Nat.testBit_or, Nat.testBit_two_pow]
  constructor
  · rintro ⟨h1, h2⟩
    rw [Bool.or_eq_true, decide_eq_true_eq] at h2
    rcases h2 with h2 | h2
    · exact .inl ⟨h1, h2⟩
    · exact .inr (by omega)
  · rintro (⟨h1, h2⟩ | rfl)
    · exact ⟨h1, by rw [h2]; rfl⟩
    · exact ⟨by omega, by simp⟩
theorem or_perm {t : Ste} {s r : Nat} (hr : r < t.length) (hs : s.testBit r = false) : (setOf t.length (s ||| 2 ^ r)).Perm (setOf t.length s ++ [(r : Int)]) := by
  refine (List.perm_ext_iff_of_nodup (setOf_nodup _ _) ?_).2 (or_mem hr)
  rw [List.nodup_append]
  refine ⟨setOf_nodup _ _, by simp, ?_⟩
  intro a ha b hb e
  rw [List.mem_singleton] at hb
  subst hb; subst e
  have := (setOf_mem_iff.1 ha).2
  simp [hs] at this
theorem lst_or {t : Ste} {s r : Nat} (hr : r < t.length) (hs : s.testBit r = false) : lstT t (s ||| 2 ^ r) = (((setOf t.length s).length : Int) + 1) * (leftT t (setOf t.length s ++ [(r : Int)]) : Int) + (bestK t (restL t (setOf t.length s ++ [(r : Int)])).length (setOf t.length s ++ [(r : Int)])).2 := by
  unfold lstT
  have h1 := (or_perm hr hs).length_eq
  rw [left_congr (or_mem (s := s) hr), rest_congr (or_mem (s := s) hr), best_congr _ (or_mem (s := s) hr), h1, List.length_append]
  rfl
theorem lin8 (a b k w : Int) : (a - b) * (k + 1) + ((k + 1) * b + w) = k * a + (a + w) := by
  rw [Int.sub_mul, Int.mul_comm b (k + 1), Int.mul_add a k 1, Int.mul_comm a k]
  omega
theorem inT_snoc {t : Ste} {pre : List Int} {r : Nat} (h : inT t pre) (hr : r < t.length) : inT t (pre ++ [(r : Int)]) := by
  intro x hx
  rcases List.mem_append.1 hx with hx | hx
  · exact h x hx
  · rw [List.mem_singleton] at hx; omega
theorem beh_off {t : Ste} {s r : Nat} {least : List Int} (hr : r < t.length) (hs : s.testBit r = false) (hl : least.getD (s ||| 2 ^ r) 0 = lstT t (s ||| 2 ^ r)) : behT t s r least = ((setOf t.length s).length : Int) * (leftT t (setOf t.length s) : Int) + offT t (setOf t.length s) r := by
  unfold behT
  rw [if_neg (by simp [hs]), hl, lst_or hr hs]
  have h1 := left_met (setOf_inT t s)
  have h2 := left_met (inT_snoc (setOf_inT t s) hr)
  have e : ((metL t (setOf t.length s ++ [(r : Int)])).length : Int) - ((metL t (setOf t.length s)).length : Int) = (leftT t (setOf t.length s) : Int) - (leftT t (setOf t.length s ++ [(r : Int)]) : Int) := by omega
  rw [e, lin8]
  rfl
theorem rest_step {t : Ste} {pre : List Int} {k : Nat} (hk : (restL t pre).length = k + 1) : bestK t (k + 1) pre = minB ((restL t pre).map fun r => (r :: (bestK t k (pre ++ [r])).1, offT t pre r)) := by
  show minB _ = _
  congr 1
  refine List.map_congr_left fun r hr => ?_
  have := rest_len hr
  unfold offT
  rw [show (restL t (pre ++ [r])).length = k by omega]
theorem off_le {t : Ste} {pre : List Int} {k : Nat} {r : Int} (hk : (restL t pre).length = k + 1) (hr : r ∈ restL t pre) : (bestK t (k + 1) pre).2 ≤ offT t pre r := by
  rw [rest_step hk]
  exact minB_le (x := (r :: (bestK t k (pre ++ [r])).1, offT t pre r)) (List.mem_map.2 ⟨r, hr, rfl⟩)
theorem minB_split : ∀ (c : List (List Int × Int)), c ≠ [] → ∃ a b, c = a ++ minB c :: b ∧ ∀ y ∈ a, (minB c).2 < y.2
  | [], h => absurd rfl h
  | [x], _ => ⟨[], [], rfl, by simp⟩
  | x :: y :: c, _ => by
    obtain ⟨a, b, e, h⟩ := minB_split (y :: c) (by simp)
    have h1 : minB (x :: y :: c) = stepM x (minB (y :: c)) := fold_min (y :: c) x (by simp)
    rw [h1]
    unfold stepM
    split
    · rename_i g
      refine ⟨x :: a, b, by rw [List.cons_append, ← e], fun z hz => ?_⟩
      rcases List.mem_cons.1 hz with rfl | hz
      · exact g
      · exact h z hz
    · exact ⟨[], y :: c, rfl, by simp⟩
theorem nums_sorted (n : Nat) : (nums n).Pairwise (· < ·) := by
  unfold nums
  refine List.Pairwise.map _ (fun a b h => ?_) List.pairwise_lt_range
  show (a : Int) < b
  omega
/-- The first row with the least offer goes first. -/
theorem first_row {t : Ste} {pre : List Int} {k : Nat} (hk : (restL t pre).length = k + 1) : ∃ r, r ∈ restL t pre ∧ offT t pre r = (bestK t (k + 1) pre).2 ∧ (bestK t (k + 1) pre).1 = r :: (bestK t k (pre ++ [r])).1 ∧ ∀ x ∈ restL t pre, x < r → (bestK t (k + 1) pre).2 < offT t pre x := by
  have hs : (restL t pre).Pairwise (· < ·) := by unfold restL; exact (nums_sorted t.length).sublist List.filter_sublist
  rw [rest_step hk]
  have hne : ((restL t pre).map fun r => (r :: (bestK t k (pre ++ [r])).1, offT t pre r)) ≠ [] := by
    intro e
    rw [List.map_eq_nil_iff] at e
    rw [e] at hk; simp at hk
  obtain ⟨a, b, e, h⟩ := minB_split _ hne
  obtain ⟨a1, b1, e1, e2, e3⟩ := List.map_eq_append_iff.1 e
  obtain ⟨r, b2, e4, e5, e6⟩ := List.map_eq_cons_iff.1 e3
  refine ⟨r, by rw [e1, e4]; simp, by rw [← e5], by rw [← e5], fun x hx hlt => ?_⟩
  rw [e1, e4] at hs hx
  have hxa : x ∈ a1 := by
    rcases List.mem_append.1 hx with hx | hx
    · exact hx
    · exfalso
      rcases List.mem_cons.1 hx with rfl | hx
      · omega
      · have := (List.pairwise_cons.1 (List.pairwise_append.1 hs).2.1).1 x hx
        omega
  have := h (x :: (bestK t k (pre ++ [x])).1, offT t pre x) (by rw [← e2]; exact List.mem_map.2 ⟨x, hxa, rfl⟩)
  exact this
theorem rest_iff {t : Ste} {s : Nat} {r : Nat} (hr : r < t.length) : (r : Int) ∈ restL t (setOf t.length s) ↔ s.testBit r = false := by
  rw [rest_mem, setOf_mem_iff]
  simp [hr]
theorem full_rest {t : Ste} {s : Nat} (hs : s + 1 < 2 ^ t.length) : ∃ r, r < t.length ∧ s.testBit r = false := by
  apply Classical.byContradiction
  intro hn
  have h1 : ∀ r, r < t.length → s.testBit r = true := fun r hr => by
    cases h : s.testBit r
    · exact absurd ⟨r, hr, h⟩ hn
    · rfl
  have h2 : s = 2 ^ t.length - 1 := by
    apply Nat.eq_of_testBit_eq
    intro i
    rw [Nat.testBit_two_pow_sub_one]
    by_cases hi : i < t.length
    · rw [h1 i hi]; simp [hi]
    · rw [Nat.testBit_lt_two_pow (Nat.lt_of_lt_of_le (by omega) (Nat.pow_le_pow_right (by omega) (show t.length ≤ i by omega)))]; simp [hi]
  omega
theorem lst_full (t : Ste) : lstT t (2 ^ t.length - 1) = 0 := by
  have h1 : setOf t.length (2 ^ t.length - 1) = nums t.length := by
    unfold setOf
    rw [List.filter_eq_self]
    intro a ha
    rw [Nat.testBit_two_pow_sub_one]
    have := nums_mem.1 ha
    simp; omega
  have h2 : restL t (nums t.length) = [] := by
    unfold restL
    rw [List.filter_eq_nil_iff]
    intro a ha
    simp [ha]
  have h3 : leftT t (nums t.length) = 0 := by
    unfold leftT
    rw [List.length_eq_zero_iff, List.filter_eq_nil_iff]
    intro g hg
    unfold unmet
    rw [open_hit hg]; simp
  unfold lstT
  rw [h1, h2, h3]
  rfl
theorem or_lt {n s r : Nat} (hs : s < 2 ^ n) (hr : r < n) : s ||| 2 ^ r < 2 ^ n := Nat.or_lt_two_pow hs (Nat.pow_lt_pow_right (by omega) hr)
theorem or_gt {s r : Nat} (h : s.testBit r = false) : s < s ||| 2 ^ r := by
  refine Nat.lt_of_le_of_ne Nat.left_le_or fun e => ?_
  have : (s ||| 2 ^ r).testBit r = true := by rw [Nat.testBit_or, Nat.testBit_two_pow]; simp
  rw [← e, h] at this
  cases this
/-- What the inner loop keeps. -/
def minI (t : Ste) (s r : Nat) (v : Int) : Prop := (v = -1 ∧ ∀ x, x < r → s.testBit x = true) ∨ ∃ x, x < r ∧ s.testBit x = false ∧ v = ((setOf t.length s).length : Int) * (leftT t (setOf t.length s) : Int) + offT t (setOf t.length s) x ∧ ∀ y, y < r → s.testBit y = false → offT t (setOf t.length s) x ≤ offT t (setOf t.length s) y
theorem minI_end {t : Ste} {s : Nat} {v : Int} (hs : s + 1 < 2 ^ t.length) (h : minI t s t.length v) : v = lstT t s := by
  obtain ⟨r0, g1, g2⟩ := full_rest hs
  rcases h with ⟨_, h⟩ | ⟨x, h1, h2, h3, h4⟩
  · rw [h r0 g1] at g2; cases g2
  · obtain ⟨k, hk⟩ : ∃ k, (restL t (setOf t.length s)).length = k + 1 := by
      cases hl : restL t (setOf t.length s) with
      | nil => have := (rest_iff (s := s) g1).2 g2; rw [hl] at this; cases this
      | cons a l => exact ⟨l.length, rfl⟩
    obtain ⟨r, q1, q2, q3, _⟩ := first_row hk
    obtain ⟨q4, q5⟩ := rest_mem.1 q1
    have e : r = (r.toNat : Int) := by omega
    rw [e] at q1 q2
    have q6 := h4 r.toNat (by omega) ((rest_iff (by omega)).1 q1)
    have q7 := off_le hk ((rest_iff (s := s) h1).2 h2)
    rw [h3]
    unfold lstT
    rw [hk]
    omega
theorem off_pos (t : Ste) (pre : List Int) (r : Int) : 0 ≤ offT t pre r := by
  unfold offT
  have := best_pos t (restL t (pre ++ [r])).length (pre ++ [r])
  omega
theorem minI_step {t : Ste} {s r : Nat} {v w : Int} (h : minI t s r v) (hr : s.testBit r = false) (hw : w = ((setOf t.length s).length : Int) * (leftT t (setOf t.length s) : Int) + offT t (setOf t.length s) r) : (v < 0 ∨ w < v → minI t s (r + 1) w) ∧ (¬ (v < 0 ∨ w < v) → minI t s (r + 1) v) := by
  constructor
  · intro hc
    refine .inr ⟨r, by omega, hr, hw, fun y hy hb => ?_⟩
    by_cases e : y = r
    · rw [e]; exact Int.le_refl _
    · rcases h with ⟨_, h⟩ | ⟨x, h1, h2, h3, h4⟩
      · rw [h y (by omega)] at hb; cases hb
      · have := h4 y (by omega) hb
        have h5 := off_pos t (setOf t.length s) x
        have h6 : 0 ≤ ((setOf t.length s).length : Int) * (leftT t (setOf t.length s) : Int) := Int.mul_nonneg (by omega) (by omega)
        generalize ((setOf t.length s).length : Int) * (leftT t (setOf t.length s) : Int) = z at *
        omega
  · intro hc
    rcases h with ⟨h, _⟩ | ⟨x, h1, h2, h3, h4⟩
    · omega
    · refine .inr ⟨x, by omega, h2, h3, fun y hy hb => ?_⟩
      by_cases e : y = r
      · rw [e]
        generalize ((setOf t.length s).length : Int) * (leftT t (setOf t.length s) : Int) = z at *
        omega
      · exact h4 y (by omega) hb
theorem minI_skip {t : Ste} {s r : Nat} {v : Int} (h : minI t s r v) (hr : s.testBit r = true) : minI t s (r + 1) v := by
  rcases h with ⟨h1, h2⟩ | ⟨x, h1, h2, h3, h4⟩
  · refine .inl ⟨h1, fun x hx => ?_⟩
    by_cases e : x = r
    · rw [e]; exact hr
    · exact h2 x (by omega)
  · refine .inr ⟨x, by omega, h2, h3, fun y hy hb => ?_⟩
    by_cases e : y = r
    · rw [e, hr] at hb; cases hb
    · exact h4 y (by omega) hb

def tabT (t : Ste) (m : Nat) (least : List Int) : Prop := least.length = 2 ^ t.length ∧ ∀ j, m ≤ j → j < 2 ^ t.length → least.getD j 0 = lstT t j
theorem tab_start (t : Ste) : tabT t (2 ^ t.length - 1) (List.replicate (2 ^ t.length) 0) := by
  refine ⟨by simp, fun j h1 h2 => ?_⟩
  rw [show j = 2 ^ t.length - 1 by omega, lst_full]
  have : 2 ^ t.length - 1 < 2 ^ t.length := by omega
  simp [List.getD_eq_getElem?_getD, this]
theorem tab_off {t : Ste} {s r : Nat} {least : List Int} (hs : s < 2 ^ t.length) (hr : r < t.length) (hb : s.testBit r = false) (h : ∀ j, s < j → j < 2 ^ t.length → least.getD j 0 = lstT t j) : behT t s r least = ((setOf t.length s).length : Int) * (leftT t (setOf t.length s) : Int) + offT t (setOf t.length s) r :=
  beh_off hr hb (h _ (or_gt hb) (or_lt hs hr))
def outI (t : Ste) (k s : Nat) (out : List Int) : Prop := (∀ x, x ∈ out ↔ x ∈ setOf t.length s) ∧ out.length = k ∧ (setOf t.length s).length = k ∧ (restL t out).length = t.length - k ∧ (bestT t).1 = out ++ (bestK t (t.length - k) out).1
theorem outI_zero (t : Ste) : outI t 0 0 [] := by
  have e : setOf t.length 0 = [] := by
    unfold setOf
    rw [List.filter_eq_nil_iff]
    simp
  refine ⟨fun x => by rw [e], rfl, by rw [e]; rfl, by rw [rest_nil_len]; rfl, rfl⟩
theorem outI_end {t : Ste} {s : Nat} {out : List Int} (h : outI t t.length s out) : out = (bestT t).1 := by
  have := h.2.2.2.2
  rw [Nat.sub_self] at this
  rw [this]
  exact (List.append_nil _).symm
theorem lst_zero (t : Ste) : lstT t 0 = (bestT t).2 := by
  have h := (outI_zero t).1
  have e : setOf t.length 0 = [] := by
    unfold setOf
    rw [List.filter_eq_nil_iff]
    simp
  unfold lstT
  rw [e, rest_nil_len]
  simp [bestT]
theorem beh_neg {t : Ste} {s r : Nat} {least : List Int} (h : s.testBit r = true) : behT t s r least = -1 := by
  unfold behT; rw [if_pos h]
theorem outI_next {t : Ste} {k s : Nat} {out least : List Int} (ht : okT t) (h : outI t k s out) (hk : k < t.length) (hs : s < 2 ^ t.length) (hl : tabT t 0 least) :
    ∃ r, r < t.length ∧ behT t s r least = lstT t s ∧ (∀ x, x < r → behT t s x least ≠ lstT t s) ∧ outI t (k + 1) (s ||| 2 ^ r) (out ++ [(r : Int)]) := by
  obtain ⟨p1, p2, p3, p4, p5⟩ := h
  have e1 : restL t out = restL t (setOf t.length s) := rest_congr p1
  have hk1 : (restL t (setOf t.length s)).length = (t.length - k - 1) + 1 := by rw [← e1, p4]; omega
  obtain ⟨r', q1, q2, q3, q4⟩ := first_row hk1
  obtain ⟨q5, q6⟩ := rest_mem.1 q1
  obtain ⟨r, rfl⟩ : ∃ r : Nat, r' = r := ⟨r'.toNat, by omega⟩
  have hr : r < t.length := by omega
  have hb := (rest_iff hr).1 q1
  have hle : lstT t s = ((setOf t.length s).length : Int) * (leftT t (setOf t.length s) : Int) + (bestK t (t.length - k - 1 + 1) (setOf t.length s)).2 := by
    unfold lstT
    rw [hk1]
  have hoff : ∀ x, x < t.length → s.testBit x = false → behT t s x least = ((setOf t.length s).length : Int) * (leftT t (setOf t.length s) : Int) + offT t (setOf t.length s) x := fun x hx hx2 => tab_off hs hx hx2 fun j _ hj => hl.2 j (Nat.zero_le _) hj
  refine ⟨r, hr, by rw [hoff r hr hb, hle, q2], fun x hx => ?_, fun x => ?_, by simp [p2], ?_, ?_, ?_⟩
  · cases hbx : s.testBit x
    · rw [hoff x (by omega) hbx, hle]
      have := q4 x ((rest_iff (by omega)).2 hbx) (by omega)
      omega
    · rw [beh_neg hbx]
      have := (lst_bound ht s).1
      omega
  · rw [or_mem hr, List.mem_append, List.mem_append, p1]
  · rw [(or_perm hr hb).length_eq, List.length_append, p3]; rfl
  · have := rest_len (t := t) (pre := out) (r := r) (by rw [e1]; exact q1)
    omega
  · rw [p5, best_congr _ p1, show t.length - k = (t.length - k - 1) + 1 by omega, q3, List.append_assoc]
    congr 1
    show _ = (r : Int) :: _
    rw [show t.length - (k + 1) = t.length - k - 1 by omega]
    rw [best_congr (t.length - k - 1) (p := setOf t.length s ++ [(r : Int)]) (q := out ++ [(r : Int)]) (fun x => by rw [List.mem_append, List.mem_append, p1])]
    rfl
end Go.Tk
set_option linter.unusedSimpArgs false
set_option linter.unusedVariables false
set_option linter.unnecessarySimpa false
namespace Go.Tk
open Go Go.RowKit
abbrev cBehind : Con := { A := (.cons (.sl (.sl .int)) (.cons .int (.cons .int (.cons (.sl .int) .nil)))), R := (.cons .int .nil), pre := fun x => okT x.1 ∧ 0 ≤ x.2.1 ∧ x.2.1.toNat < 2 ^ x.1.length ∧ 0 ≤ x.2.2.1 ∧ x.2.2.1 < x.1.length ∧ x.2.2.2.1.length = 2 ^ x.1.length ∧ (x.2.1.toNat.testBit x.2.2.1.toNat = false → 0 ≤ lstAt x.2.2.2.1 x.2.1.toNat x.2.2.1.toNat ∧ lstAt x.2.2.2.1 x.2.1.toNat x.2.2.1.toNat ≤ 10000), F := fun x => (behT x.1 x.2.1.toNat x.2.2.1.toNat x.2.2.2.1, ()) }
def cBehind_0  (t : (List (List Int))) (set_ : Int) (r : Int) (least : (List Int)) (y0 : Int) : Prop :=
  (0 ≤ r ∧ r < 64) ∧ (True ∧ (if ((IntKind.i64.wrap (BitVec.ofInt 64 (Int.fdiv set_ (2 ^ (Int.toNat r))) &&& BitVec.ofInt 64 (1 : Int)).toNat) == (1 : Int)) = true then ((-1 : Int) = y0 ∧ True) else ((0 ≤ set_ ∧ set_ < 4294967296 ∧ 0 ≤ (List.length t : Int) ∧ (List.length t : Int) ≤ 60) ∧ (List.length ([] : List Int) + List.length (setOf (List.length t : Int).toNat set_.toNat) ≤ 4294967296 ∧ (List.length (([] : List Int) ++ (setOf (List.length t : Int).toNat set_.toNat)) + List.length [r] ≤ 4294967296 ∧ ((okT t ∧ inT t ((([] : List Int) ++ (setOf (List.length t : Int).toNat set_.toNat)) ++ [r]) ∧ ((([] : List Int) ++ (setOf (List.length t : Int).toNat set_.toNat)) ++ [r]).length ≤ 1000000) ∧ ((okT t ∧ inT t (setOf (List.length t : Int).toNat set_.toNat) ∧ (setOf (List.length t : Int).toNat set_.toNat).length ≤ 1000000) ∧ (inI ((List.length (metL t ((([] : List Int) ++ (setOf (List.length t : Int).toNat set_.toNat)) ++ [r])) : Int) - (List.length (metL t (setOf (List.length t : Int).toNat set_.toNat)) : Int)) ∧ (inI ((List.length (setOf (List.length t : Int).toNat set_.toNat) : Int) + (1 : Int)) ∧ (inI (((List.length (metL t ((([] : List Int) ++ (setOf (List.length t : Int).toNat set_.toNat)) ++ [r])) : Int) - (List.length (metL t (setOf (List.length t : Int).toNat set_.toNat)) : Int)) * ((List.length (setOf (List.length t : Int).toNat set_.toNat) : Int) + (1 : Int))) ∧ ((0 ≤ r ∧ r < 64 ∧ inI ((1 : Int) * 2 ^ (Int.toNat r))) ∧ (True ∧ (idx (IntKind.i64.wrap (BitVec.ofInt 64 set_ ||| BitVec.ofInt 64 ((1 : Int) * 2 ^ (Int.toNat r))).toNat) (List.length least : Int) ∧ (inI ((((List.length (metL t ((([] : List Int) ++ (setOf (List.length t : Int).toNat set_.toNat)) ++ [r])) : Int) - (List.length (metL t (setOf (List.length t : Int).toNat set_.toNat)) : Int)) * ((List.length (setOf (List.length t : Int).toNat set_.toNat) : Int) + (1 : Int))) + (List.getD least (Int.toNat (IntKind.i64.wrap (BitVec.ofInt 64 set_ ||| BitVec.ofInt 64 ((1 : Int) * 2 ^ (Int.toNat r))).toNat)) 0)) ∧ (((((List.length (metL t ((([] : List Int) ++ (setOf (List.length t : Int).toNat set_.toNat)) ++ [r])) : Int) - (List.length (metL t (setOf (List.length t : Int).toNat set_.toNat)) : Int)) * ((List.length (setOf (List.length t : Int).toNat set_.toNat) : Int) + (1 : Int))) + (List.getD least (Int.toNat (IntKind.i64.wrap (BitVec.ofInt 64 set_ ||| BitVec.ofInt 64 ((1 : Int) * 2 ^ (Int.toNat r))).toNat)) 0)) = y0 ∧ True)))))))))))))))
theorem cBehind_law (h : ∀ (t : (List (List Int))) (set_ : Int) (r : Int) (least : (List Int)), cBehind.A.wf (t, set_, r, least, ()) → (okT t ∧ 0 ≤ set_ ∧ set_.toNat < 2 ^ t.length ∧ 0 ≤ r ∧ r < t.length ∧ least.length = 2 ^ t.length ∧ (set_.toNat.testBit r.toNat = false → 0 ≤ lstAt least set_.toNat r.toNat ∧ lstAt least set_.toNat r.toNat ≤ 10000)) → cBehind_0  t set_ r least (behT t set_.toNat r.toNat least)) : ConOK Go.Proofs.Try.prog 92 cBehind := by
  refine lawL (Γ := [(71, cMet8r), (63, cSub8r)]) (Θ := Th) (n := 47) [] ⟨cMet8r_ok, cSub8r_ok, trivial⟩ (by kernel_rfl) th_ok mix_ok Go.Proofs.Try.func92 (by kernel_rfl) ?_
  intro x hw hp Λ hC
  have h0 := h x.1 x.2.1 x.2.2.1 x.2.2.2.1 hw hp  
  exact Eq.mpr (by kernel_rfl) h0
theorem cBehind_ok : ConOK Go.Proofs.Try.prog 92 cBehind := by
  refine cBehind_law ?_
  intro t set_ r least hw hp
  unfold cBehind_0
  obtain ⟨ht, s0, s1, r0, r1, hl, hv⟩ := hp
  obtain ⟨s, rfl⟩ : ∃ s : Nat, set_ = s := ⟨set_.toNat, by omega⟩
  obtain ⟨k, rfl⟩ : ∃ k : Nat, r = k := ⟨r.toNat, by omega⟩
  simp only [Int.toNat_natCast] at s1 hv ⊢
  have h8 := ht.1
  have hN : 2 ^ t.length ≤ 256 := Nat.le_trans (Nat.pow_le_pow_right (by omega) h8) (by decide)
  have hk : k < t.length := by omega
  rw [bit_test1 s k (by omega)]
  refine ⟨⟨by omega, by omega⟩, trivial, ?_⟩
  cases hb : s.testBit k
  · rw [if_neg (by simp)]
    have hin := setOf_inT t s
    have hin2 := inT_snoc hin hk
    have hlen := setOf_len t.length s
    have m1 := metL_len t (setOf t.length s)
    have m2 := metL_len t (setOf t.length s ++ [(k : Int)])
    have h10 := ht.2.1
    have hor := or_lt s1 hk
    have hv : 0 ≤ least.getD (s ||| 2 ^ k) 0 ∧ least.getD (s ||| 2 ^ k) 0 ≤ 10000 := hv hb
    have e2 : (2 : Int) ^ k = ((2 ^ k : Nat) : Int) := by simp
    have hk2 : 2 ^ k < 2 ^ t.length := Nat.pow_lt_pow_right (by omega) hk
    have hprod : ∀ (a b c : Int), 0 ≤ a → a ≤ 10 → 0 ≤ b → b ≤ 10 → 0 ≤ c → c ≤ 8 → -1000 ≤ (a - b) * (c + 1) ∧ (a - b) * (c + 1) ≤ 1000 := by
      intro a b c a0 a1 b0 b1 c0 c1
      have q1 : a * (c + 1) ≤ 10 * 9 := Int.mul_le_mul a1 (by omega) (by omega) (by omega)
      have q2 : b * (c + 1) ≤ 10 * 9 := Int.mul_le_mul b1 (by omega) (by omega) (by omega)
      have q3 : 0 ≤ a * (c + 1) := Int.mul_nonneg a0 (by omega)
      have q4 : 0 ≤ b * (c + 1) := Int.mul_nonneg b0 (by omega)
      rw [Int.sub_mul]
      omega
    have hpr := hprod ((metL t (setOf t.length s ++ [(k : Int)])).length) ((metL t (setOf t.length s)).length) ((setOf t.length s).length) (by omega) (by omega) (by omega) (by omega) (by omega) (by omega)
    simp only [List.nil_append]
    rw [bit_or s k (by omega) (by omega), Int.toNat_natCast]
    refine ⟨⟨by omega, by omega, by omega, by omega⟩, by simp; omega, by simp; omega, ⟨ht, hin2, by simp; omega⟩, ⟨ht, hin, by omega⟩, by unfold inI; omega, by unfold inI; omega, by unfold inI; omega, ⟨by omega, by omega, pow_in (by omega)⟩, trivial, idx_nat (by omega), by unfold inI; omega, ?_, trivial⟩
    · unfold behT; rw [if_neg (by simp [hb])]
  · rw [if_pos rfl, beh_neg hb]
    exact ⟨rfl, trivial⟩
abbrev cBestR : Con := { A := (.cons (.sl (.sl .int)) .nil), R := (.cons (.sl .int) (.cons .int (.cons .int .nil))), pre := fun x => True, F := fun x => ((if validT x.1 = 0 then (bestT x.1).1 else []), (if validT x.1 = 0 then (bestT x.1).2 else 0), validT x.1, ()) }
def cBestR_0 (Λ1 : Int → (List Int) → Prop) (Λ2 : Int → Int → (List Int) → Prop) (Λ3 : (List Int) → Int → (List Int) → Prop) (Λ4 : (List Int) → (List Int) → Int → Int → Prop) (t : (List (List Int))) (y0 : (List Int)) (y1 : Int) (y2 : Int) : Prop :=
  True ∧ (if ((validT t) != (0 : Int)) = true then (([] : List Int) = y0 ∧ (0 : Int) = y1 ∧ (validT t) = y2 ∧ True) else ((0 ≤ (List.length t : Int) ∧ (List.length t : Int) < 64 ∧ inI ((1 : Int) * 2 ^ (Int.toNat (List.length t : Int)))) ∧ (inI (((1 : Int) * 2 ^ (Int.toNat (List.length t : Int))) - (1 : Int)) ∧ ((0 ≤ (List.length t : Int) ∧ (List.length t : Int) < 64 ∧ inI ((1 : Int) * 2 ^ (Int.toNat (List.length t : Int)))) ∧ (mkLen ((1 : Int) * 2 ^ (Int.toNat (List.length t : Int))) ((1 : Int) * 2 ^ (Int.toNat (List.length t : Int))) ∧ (inI ((((1 : Int) * 2 ^ (Int.toNat (List.length t : Int))) - (1 : Int)) - (1 : Int)) ∧ Λ1 ((((1 : Int) * 2 ^ (Int.toNat (List.length t : Int))) - (1 : Int)) - (1 : Int)) (List.replicate (Int.toNat ((1 : Int) * 2 ^ (Int.toNat (List.length t : Int)))) (0 : Int))))))))
def cBestR_1 (Λ1 : Int → (List Int) → Prop) (Λ2 : Int → Int → (List Int) → Prop) (Λ3 : (List Int) → Int → (List Int) → Prop) (Λ4 : (List Int) → (List Int) → Int → Int → Prop) (t : (List (List Int))) (y0 : (List Int)) (y1 : Int) (y2 : Int)  (set_1 : Int) (least_1 : (List Int)) : Prop :=
  if (decide (set_1 ≥ (0 : Int))) = true then (idx set_1 (List.length least_1 : Int) ∧ Λ2 set_1 (0 : Int) (List.set least_1 (Int.toNat set_1) (-1))) else Λ3 least_1 (0 : Int) ([] : List Int)
def cBestR_2 (Λ1 : Int → (List Int) → Prop) (Λ2 : Int → Int → (List Int) → Prop) (Λ3 : (List Int) → Int → (List Int) → Prop) (Λ4 : (List Int) → (List Int) → Int → Int → Prop) (t : (List (List Int))) (y0 : (List Int)) (y1 : Int) (y2 : Int) (set_1 : Int) (r_2 : Int) (least_2 : (List Int)) : Prop :=
  if (decide (r_2 < (List.length t : Int))) = true then ((okT t ∧ 0 ≤ set_1 ∧ set_1.toNat < 2 ^ t.length ∧ 0 ≤ r_2 ∧ r_2 < t.length ∧ least_2.length = 2 ^ t.length ∧ (set_1.toNat.testBit r_2.toNat = false → 0 ≤ lstAt least_2 set_1.toNat r_2.toNat ∧ lstAt least_2 set_1.toNat r_2.toNat ≤ 10000)) ∧ (if (decide ((behT t set_1.toNat r_2.toNat least_2) ≥ (0 : Int))) = true then (idx set_1 (List.length least_2 : Int) ∧ (if (decide ((List.getD least_2 (Int.toNat set_1) 0) < (0 : Int))) = true then (true = true ∧ (True ∧ (if (bif true then true else false) = true then (idx set_1 (List.length least_2 : Int) ∧ (inI (r_2 + (1 : Int)) ∧ Λ2 set_1 (r_2 + (1 : Int)) (List.set least_2 (Int.toNat set_1) (behT t set_1.toNat r_2.toNat least_2)))) else (inI (r_2 + (1 : Int)) ∧ Λ2 set_1 (r_2 + (1 : Int)) least_2)))) else (idx set_1 (List.length least_2 : Int) ∧ (True ∧ (True ∧ (if (bif true then (bif false then true else (decide ((behT t set_1.toNat r_2.toNat least_2) < (List.getD least_2 (Int.toNat set_1) 0)))) else false) = true then (idx set_1 (List.length least_2 : Int) ∧ (inI (r_2 + (1 : Int)) ∧ Λ2 set_1 (r_2 + (1 : Int)) (List.set least_2 (Int.toNat set_1) (behT t set_1.toNat r_2.toNat least_2)))) else (inI (r_2 + (1 : Int)) ∧ Λ2 set_1 (r_2 + (1 : Int)) least_2))))))) else (false = false ∧ (inI (r_2 + (1 : Int)) ∧ Λ2 set_1 (r_2 + (1 : Int)) least_2)))) else (inI (set_1 - (1 : Int)) ∧ Λ1 (set_1 - (1 : Int)) least_2)
def cBestR_3 (Λ1 : Int → (List Int) → Prop) (Λ2 : Int → Int → (List Int) → Prop) (Λ3 : (List Int) → Int → (List Int) → Prop) (Λ4 : (List Int) → (List Int) → Int → Int → Prop) (t : (List (List Int))) (y0 : (List Int)) (y1 : Int) (y2 : Int) (least_1 : (List Int)) (set_3 : Int) (out_3 : (List Int)) : Prop :=
  if (decide ((List.length out_3 : Int) < (List.length t : Int))) = true then Λ4 least_1 out_3 set_3 (0 : Int) else (idx (0 : Int) (List.length least_1 : Int) ∧ (out_3 = y0 ∧ (List.getD least_1 (Int.toNat (0 : Int)) 0) = y1 ∧ (0 : Int) = y2 ∧ True))
def cBestR_4 (Λ1 : Int → (List Int) → Prop) (Λ2 : Int → Int → (List Int) → Prop) (Λ3 : (List Int) → Int → (List Int) → Prop) (Λ4 : (List Int) → (List Int) → Int → Int → Prop) (t : (List (List Int))) (y0 : (List Int)) (y1 : Int) (y2 : Int) (least_1 : (List Int)) (out_3 : (List Int)) (set_3 : Int) (r_4 : Int) : Prop :=
  if (decide (r_4 < (List.length t : Int))) = true then ((okT t ∧ 0 ≤ set_3 ∧ set_3.toNat < 2 ^ t.length ∧ 0 ≤ r_4 ∧ r_4 < t.length ∧ least_1.length = 2 ^ t.length ∧ (set_3.toNat.testBit r_4.toNat = false → 0 ≤ lstAt least_1 set_3.toNat r_4.toNat ∧ lstAt least_1 set_3.toNat r_4.toNat ≤ 10000)) ∧ (idx set_3 (List.length least_1 : Int) ∧ (if ((behT t set_3.toNat r_4.toNat least_1) == (List.getD least_1 (Int.toNat set_3) 0)) = true then (List.length out_3 + List.length [r_4] ≤ 4294967296 ∧ ((0 ≤ r_4 ∧ r_4 < 64 ∧ inI ((1 : Int) * 2 ^ (Int.toNat r_4))) ∧ (True ∧ Λ3 least_1 (IntKind.i64.wrap (BitVec.ofInt 64 set_3 ||| BitVec.ofInt 64 ((1 : Int) * 2 ^ (Int.toNat r_4))).toNat) (out_3 ++ [r_4])))) else (inI (r_4 + (1 : Int)) ∧ Λ4 least_1 out_3 set_3 (r_4 + (1 : Int)))))) else Λ3 least_1 set_3 out_3
theorem cBestR_law (h : ∀ (t : (List (List Int))), cBestR.A.wf (t, ()) → ∀ (Λ1 : Int → (List Int) → Prop) (Λ2 : Int → Int → (List Int) → Prop) (Λ3 : (List Int) → Int → (List Int) → Prop) (Λ4 : (List Int) → (List Int) → Int → Int → Prop), (∀ (set_1 : Int) (least_1 : (List Int)), cBestR_1 Λ1 Λ2 Λ3 Λ4 t (if validT t = 0 then (bestT t).1 else []) (if validT t = 0 then (bestT t).2 else 0) (validT t) set_1 least_1 → Λ1 set_1 least_1) → (∀ (set_1 : Int) (r_2 : Int) (least_2 : (List Int)), cBestR_2 Λ1 Λ2 Λ3 Λ4 t (if validT t = 0 then (bestT t).1 else []) (if validT t = 0 then (bestT t).2 else 0) (validT t) set_1 r_2 least_2 → Λ2 set_1 r_2 least_2) → (∀ (least_1 : (List Int)) (set_3 : Int) (out_3 : (List Int)), cBestR_3 Λ1 Λ2 Λ3 Λ4 t (if validT t = 0 then (bestT t).1 else []) (if validT t = 0 then (bestT t).2 else 0) (validT t) least_1 set_3 out_3 → Λ3 least_1 set_3 out_3) → (∀ (least_1 : (List Int)) (out_3 : (List Int)) (set_3 : Int) (r_4 : Int), cBestR_4 Λ1 Λ2 Λ3 Λ4 t (if validT t = 0 then (bestT t).1 else []) (if validT t = 0 then (bestT t).2 else 0) (validT t) least_1 out_3 set_3 r_4 → Λ4 least_1 out_3 set_3 r_4) → cBestR_0 Λ1 Λ2 Λ3 Λ4 t (if validT t = 0 then (bestT t).1 else []) (if validT t = 0 then (bestT t).2 else 0) (validT t)) : ConOK Go.Proofs.Try.prog 44 cBestR := by
  refine lawL (Γ := [(92, cBehind), (36, cVal8r)]) (Θ := Th) (n := 99) [([1, 1, 1, 1, 1, 1, 0, 1, 0], ⟨[(0, false), (6, true), (8, true), (9, true)], [(27, true)]⟩), ([1, 1, 1, 1, 1, 1, 0, 1, 0, 0, 1, 0, 0, 1, 1, 0], ⟨[(0, false), (6, true), (8, true), (9, true), (10, true)], [(27, true)]⟩), ([1, 1, 1, 1, 1, 1, 1, 1, 1, 0, 0], ⟨[(0, false), (6, true), (8, true), (12, true), (13, true)], [(12, true), (27, true)]⟩), ([1, 1, 1, 1, 1, 1, 1, 1, 1, 0, 0, 0, 1, 0, 1, 0], ⟨[(0, false), (6, true), (8, true), (12, true), (13, true), (14, true)], [(12, true), (27, true)]⟩)] ⟨cBehind_ok, cVal8r_ok, trivial⟩ (by kernel_rfl) th_ok mix_ok Go.Proofs.Try.func44 (by kernel_rfl) ?_
  intro x hw hp Λ hC
  have h0 := h x.1 hw (fun set_1 least_1 => Λ [1, 1, 1, 1, 1, 1, 0, 1, 0] ([(0, .d false (.sl (.sl .int)) x.1), (6, .d true .int (List.length x.1 : Int)), (8, .own 27 0), (9, .d true .int set_1)], [(27, .sl true .int least_1)])) (fun set_1 r_2 least_2 => Λ [1, 1, 1, 1, 1, 1, 0, 1, 0, 0, 1, 0, 0, 1, 1, 0] ([(0, .d false (.sl (.sl .int)) x.1), (6, .d true .int (List.length x.1 : Int)), (8, .own 27 0), (9, .d true .int set_1), (10, .d true .int r_2)], [(27, .sl true .int least_2)])) (fun least_1 set_3 out_3 => Λ [1, 1, 1, 1, 1, 1, 1, 1, 1, 0, 0] ([(0, .d false (.sl (.sl .int)) x.1), (6, .d true .int (List.length x.1 : Int)), (8, .own 27 0), (12, .own 12 0), (13, .d true .int set_3)], [(12, .sl true .int out_3), (27, .sl true .int least_1)])) (fun least_1 out_3 set_3 r_4 => Λ [1, 1, 1, 1, 1, 1, 1, 1, 1, 0, 0, 0, 1, 0, 1, 0] ([(0, .d false (.sl (.sl .int)) x.1), (6, .d true .int (List.length x.1 : Int)), (8, .own 27 0), (12, .own 12 0), (13, .d true .int set_3), (14, .d true .int r_4)], [(12, .sl true .int out_3), (27, .sl true .int least_1)])) (fun set_1 least_1 hb => hC [1, 1, 1, 1, 1, 1, 0, 1, 0] ([(0, .d false (.sl (.sl .int)) x.1), (6, .d true .int (List.length x.1 : Int)), (8, .own 27 0), (9, .d true .int set_1)], [(27, .sl true .int least_1)]) (Eq.mpr (by kernel_rfl) hb)) (fun set_1 r_2 least_2 hb => hC [1, 1, 1, 1, 1, 1, 0, 1, 0, 0, 1, 0, 0, 1, 1, 0] ([(0, .d false (.sl (.sl .int)) x.1), (6, .d true .int (List.length x.1 : Int)), (8, .own 27 0), (9, .d true .int set_1), (10, .d true .int r_2)], [(27, .sl true .int least_2)]) (Eq.mpr (by kernel_rfl) hb)) (fun least_1 set_3 out_3 hb => hC [1, 1, 1, 1, 1, 1, 1, 1, 1, 0, 0] ([(0, .d false (.sl (.sl .int)) x.1), (6, .d true .int (List.length x.1 : Int)), (8, .own 27 0), (12, .own 12 0), (13, .d true .int set_3)], [(12, .sl true .int out_3), (27, .sl true .int least_1)]) (Eq.mpr (by kernel_rfl) hb)) (fun least_1 out_3 set_3 r_4 hb => hC [1, 1, 1, 1, 1, 1, 1, 1, 1, 0, 0, 0, 1, 0, 1, 0] ([(0, .d false (.sl (.sl .int)) x.1), (6, .d true .int (List.length x.1 : Int)), (8, .own 27 0), (12, .own 12 0), (13, .d true .int set_3), (14, .d true .int r_4)], [(12, .sl true .int out_3), (27, .sl true .int least_1)]) (Eq.mpr (by kernel_rfl) hb))
  exact Eq.mpr (by kernel_rfl) h0
theorem cBestR_ok : ConOK Go.Proofs.Try.prog 44 cBestR := by
  refine cBestR_law ?_
  intro t hw Λ1 Λ2 Λ3 Λ4 h1 h2 h3 h4
  unfold cBestR_0
  refine ⟨trivial, ?_⟩
  by_cases h0 : validT t = 0
  · rw [if_neg (by simp [h0])]
    have ht := validT_ok.1 h0
    have h8 := ht.1
    rw [if_pos h0, if_pos h0, h0] at h1 h2 h3 h4
    have hN1 : 1 ≤ 2 ^ t.length := Nat.one_le_two_pow
    have hN2 : 2 ^ t.length ≤ 256 := Nat.le_trans (Nat.pow_le_pow_right (by omega) h8) (by decide)
    have e2 : (1 : Int) * 2 ^ (Int.toNat (t.length : Int)) = ((2 ^ t.length : Nat) : Int) := by rw [Int.toNat_natCast, Int.one_mul]; simp
    rw [e2, Int.toNat_natCast]
    have hlst := lst_bound ht
    refine ⟨⟨by omega, by omega, by unfold inI; omega⟩, by unfold inI; omega, ⟨by omega, by omega, by unfold inI; omega⟩, by unfold mkLen; omega, by unfold inI; omega, ?_⟩
    have hT3 : ∀ (least : List Int), tabT t 0 least → ∀ k, k ≤ t.length → ∀ (s : Nat) (out : List Int), s < 2 ^ t.length → outI t k s out → Λ3 least (s : Int) out := by
      intro least hl
      have hll := hl.1
      refine upto ?_ ?_
      · intro s out hs ho
        have hol := ho.2.1
        apply h3; unfold cBestR_3
        rw [if_neg (by simp; omega)]
        refine ⟨by unfold idx; omega, outI_end ho, ?_, rfl, trivial⟩
        rw [show Int.toNat (0 : Int) = 0 from rfl, hl.2 0 (by omega) (by omega), lst_zero]
      · intro k hk ih s out hs ho
        have hol := ho.2.1
        apply h3; unfold cBestR_3
        rw [if_pos (by simp; omega)]
        obtain ⟨r, g1, g2, g3, g4⟩ := outI_next ht ho hk hs hl
        refine upto (n := t.length) (Q := fun i => (∀ x, x < i → behT t s x least ≠ lstT t s) → Λ4 least out (s : Int) (i : Int)) ?_ ?_ 0 (Nat.zero_le _) (fun x hx => absurd hx (by omega))
        · intro hn
          exact absurd g2 (hn r g1)
        · intro i hi ih4 hn
          apply h4; unfold cBestR_4
          rw [if_pos (by simpa using hi)]
          simp only [Int.toNat_natCast]
          refine ⟨⟨ht, by omega, hs, by omega, by omega, hl.1, fun hb => ?_⟩, idx_nat (by omega), ?_⟩
          · have := hlst (s ||| 2 ^ i)
            show 0 ≤ least.getD (s ||| 2 ^ i) 0 ∧ least.getD (s ||| 2 ^ i) 0 ≤ 10000
            rw [hl.2 _ (Nat.zero_le _) (or_lt hs hi)]
            omega
          · rw [hl.2 s (Nat.zero_le _) hs]
            by_cases hx : behT t s i least = lstT t s
            · rw [if_pos (by simpa using hx)]
              have e : i = r := by
                rcases Nat.lt_trichotomy i r with h | h | h
                · exact absurd hx (g3 i h)
                · exact h
                · exact absurd g2 (hn r h)
              rw [bit_or s i (by omega) (by omega)]
              refine ⟨by simp; omega, ⟨by omega, by omega, pow_in (by omega)⟩, trivial, ?_⟩
              rw [e]
              exact ih _ _ (or_lt hs g1) g4
            · rw [if_neg (by simpa using hx)]
              exact ⟨by unfold inI; omega, ih4 fun x hx2 => by
                by_cases e : x = i
                · rw [e]; exact hx
                · exact hn x (by omega)⟩
    have hT1 : ∀ m, m + 1 ≤ 2 ^ t.length → ∀ least, tabT t m least → Λ1 ((m : Int) - 1) least := by
      intro m
      induction m with
      | zero =>
        intro _ least hl
        apply h1; unfold cBestR_1
        rw [if_neg (by simp)]
        exact hT3 least hl 0 (Nat.zero_le _) 0 [] (by omega) (outI_zero t)
      | succ m ih =>
        intro hm least hl
        apply h1; unfold cBestR_1
        rw [show ((m + 1 : Nat) : Int) - 1 = (m : Int) by omega, if_pos (by simp), Int.toNat_natCast]
        have hll := hl.1
        refine ⟨idx_nat (by omega), ?_⟩
        have key : ∀ i, i ≤ t.length → ∀ l2 : List Int, l2.length = 2 ^ t.length → (∀ j, m < j → j < 2 ^ t.length → l2.getD j 0 = lstT t j) → minI t m i (l2.getD m 0) → Λ2 (m : Int) (i : Int) l2 := by
          refine upto ?_ ?_
          · intro l2 e1 e2 e3
            apply h2; unfold cBestR_2
            rw [if_neg (by simp)]
            refine ⟨by unfold inI; omega, ih (by omega) l2 ⟨e1, fun j j1 j2 => ?_⟩⟩
            by_cases e : j = m
            · rw [e]; exact minI_end hm e3
            · exact e2 j (by omega) j2
          · intro i hi ih2 l2 e1 e2 e3
            apply h2; unfold cBestR_2
            rw [if_pos (by simpa using hi), Int.toNat_natCast, Int.toNat_natCast]
            refine ⟨⟨ht, by omega, by omega, by omega, by omega, e1, fun hb => ?_⟩, ?_⟩
            · have := hlst (m ||| 2 ^ i)
              show 0 ≤ l2.getD (m ||| 2 ^ i) 0 ∧ l2.getD (m ||| 2 ^ i) 0 ≤ 10000
              rw [e2 _ (or_gt hb) (or_lt (by omega) hi)]
              omega
            · have hset : ∀ v : Int, (l2.set m v).length = 2 ^ t.length ∧ (∀ j, m < j → j < 2 ^ t.length → (l2.set m v).getD j 0 = lstT t j) ∧ (l2.set m v).getD m 0 = v := by
                intro v
                refine ⟨by simp [e1], fun j j1 j2 => ?_, ?_⟩
                · rw [List.getD_eq_getElem?_getD, List.getElem?_set_ne (by omega), ← List.getD_eq_getElem?_getD]
                  exact e2 j j1 j2
                · rw [List.getD_eq_getElem?_getD, List.getElem?_set_self (by omega)]; rfl
              cases hb : m.testBit i
              · have hoff := tab_off (t := t) (by omega) hi hb e2
                obtain ⟨s1, s2⟩ := minI_step e3 hb hoff
                have hpos : 0 ≤ behT t m i l2 := by
                  rw [hoff]
                  have h5 := off_pos t (setOf t.length m) i
                  have h6 : 0 ≤ ((setOf t.length m).length : Int) * (leftT t (setOf t.length m) : Int) := Int.mul_nonneg (by omega) (by omega)
                  omega
                clear hoff
                generalize behT t m i l2 = w at s1 s2 hpos ⊢
                rw [if_pos (by simpa using hpos)]
                refine ⟨idx_nat (by omega), ?_⟩
                by_cases c1 : l2.getD m 0 < 0
                · rw [if_pos (by simpa using c1)]
                  refine ⟨rfl, trivial, ?_⟩
                  rw [if_pos (by simp)]
                  obtain ⟨t1, t2, t3⟩ := hset w
                  exact ⟨idx_nat (by omega), by unfold inI; omega, ih2 _ t1 t2 (by rw [t3]; exact s1 (.inl c1))⟩
                · rw [if_neg (by simpa using c1)]
                  refine ⟨idx_nat (by omega), trivial, trivial, ?_⟩
                  by_cases c2 : w < l2.getD m 0
                  · rw [if_pos (by rw [show decide (w < l2.getD m 0) = true from decide_eq_true c2]; rfl)]
                    obtain ⟨t1, t2, t3⟩ := hset w
                    exact ⟨idx_nat (by omega), by unfold inI; omega, ih2 _ t1 t2 (by rw [t3]; exact s1 (.inr c2))⟩
                  · rw [if_neg (by rw [show decide (w < l2.getD m 0) = false from decide_eq_false c2]; exact Bool.false_ne_true)]
                    exact ⟨by unfold inI; omega, ih2 _ e1 e2 (s2 (by omega))⟩
              · rw [beh_neg hb, if_neg (by simp)]
                exact ⟨rfl, by unfold inI; omega, ih2 _ e1 e2 (minI_skip e3 hb)⟩
        refine key 0 (Nat.zero_le _) _ (by simp [hll]) (fun j j1 j2 => ?_) (.inl ⟨?_, fun x hx => absurd hx (by omega)⟩)
        · rw [List.getD_eq_getElem?_getD, List.getElem?_set_ne (by omega), ← List.getD_eq_getElem?_getD]
          exact hl.2 j (by omega) j2
        · rw [List.getD_eq_getElem?_getD, List.getElem?_set_self (by omega)]; rfl
    have := hT1 (2 ^ t.length - 1) (by omega) _ (tab_start t)
    rw [show (((2 ^ t.length - 1 : Nat) : Int)) = ((2 ^ t.length : Nat) : Int) - 1 by omega] at this
    exact this
  · rw [if_pos (by simp [h0])]
    simp [h0]
abbrev cIndexN : Con := { A := (.cons (.sl .int) (.cons .int .nil)), R := (.cons .int .nil), pre := fun x => True, F := fun x => (idxF (fun r' => x.2.1 == r') x.1, ()) }
def cIndexN_0 (Λ1 : Int → Prop) (s : (List Int)) (v : Int) (y0 : Int) : Prop :=
  Λ1 (0 : Int)
def cIndexN_1 (Λ1 : Int → Prop) (s : (List Int)) (v : Int) (y0 : Int)  (t8_1 : Int) : Prop :=
  if (decide (t8_1 < (List.length s : Int))) = true then (idx t8_1 (List.length s : Int) ∧ (if (v == (List.getD s (Int.toNat t8_1) 0)) = true then (t8_1 = y0 ∧ True) else (inI (t8_1 + (1 : Int)) ∧ Λ1 (t8_1 + (1 : Int))))) else ((-1 : Int) = y0 ∧ True)
theorem cIndexN_law (h : ∀ (s : (List Int)) (v : Int), cIndexN.A.wf (s, v, ()) → ∀ (Λ1 : Int → Prop), (∀ (t8_1 : Int), cIndexN_1 Λ1 s v (idxF (fun r' => v == r') s) t8_1 → Λ1 t8_1) → cIndexN_0 Λ1 s v (idxF (fun r' => v == r') s)) : ConOK Go.Proofs.Try.prog 110 cIndexN := by
  refine lawL (Γ := []) (Θ := Th) (n := 19) [([1, 0, 1, 0], ⟨[(0, false), (1, false), (7, true), (8, true)], []⟩)] trivial (by kernel_rfl) th_ok mix_ok Go.Proofs.Try.func110 (by kernel_rfl) ?_
  intro x hw hp Λ hC
  have h0 := h x.1 x.2.1 hw (fun t8_1 => Λ [1, 0, 1, 0] ([(0, .d false (.sl .int) x.1), (1, .d false .int x.2.1), (7, .d true .int (List.length x.1 : Int)), (8, .d true .int t8_1)], [])) (fun t8_1 hb => hC [1, 0, 1, 0] ([(0, .d false (.sl .int) x.1), (1, .d false .int x.2.1), (7, .d true .int (List.length x.1 : Int)), (8, .d true .int t8_1)], []) (Eq.mpr (by kernel_rfl) hb))
  exact Eq.mpr (by kernel_rfl) h0
theorem cIndexN_ok : ConOK Go.Proofs.Try.prog 110 cIndexN := by
  refine cIndexN_law ?_
  intro s v hw Λ1 h1
  unfold cIndexN_0
  refine upto (n := s.length) (Q := fun i => (s.take i).any (fun r => v == r) = false → Λ1 i) ?_ ?_ 0 (Nat.zero_le _) rfl
  · intro ha
    rw [List.take_length] at ha
    apply h1; unfold cIndexN_1; rw [if_neg (by simp), idxF_none ha]
    exact ⟨rfl, trivial⟩
  · intro i hi ih ha
    apply h1; unfold cIndexN_1; rw [if_pos (by simpa using hi), Int.toNat_natCast]
    refine ⟨idx_nat hi, ?_⟩
    cases hv : (v == List.getD s i 0)
    · rw [if_neg (by simp)]
      exact ⟨inI_succ hi hw.1.1, ih (any_take_next (p := fun r => v == r) 0 hi ha hv)⟩
    · rw [if_pos (by rfl), idxF_at (p := fun r => v == r) 0 hi ha hv]
      exact ⟨rfl, trivial⟩
abbrev cContN : Con := { A := (.cons (.sl .int) (.cons .int .nil)), R := (.cons .bool .nil), pre := fun x => True, F := fun x => (decide (x.2.1 ∈ x.1), ()) }
def cContN_0  (s : (List Int)) (v : Int) (y0 : Bool) : Prop :=
  True ∧ ((decide ((idxF (fun r' => v == r') s) ≥ (0 : Int))) = y0 ∧ True)
theorem cContN_law (h : ∀ (s : (List Int)) (v : Int), cContN.A.wf (s, v, ()) → cContN_0  s v (decide (v ∈ s))) : ConOK Go.Proofs.Try.prog 90 cContN := by
  refine lawL (Γ := [(110, cIndexN)]) (Θ := Th) (n := 9) [] ⟨cIndexN_ok, trivial⟩ (by kernel_rfl) th_ok mix_ok Go.Proofs.Try.func90 (by kernel_rfl) ?_
  intro x hw hp Λ hC
  have h0 := h x.1 x.2.1 hw  
  exact Eq.mpr (by kernel_rfl) h0
theorem cContN_ok : ConOK Go.Proofs.Try.prog 90 cContN := by
  refine cContN_law ?_
  intro s v hw
  unfold cContN_0
  refine ⟨trivial, ?_, trivial⟩
  rw [idxF_any, Bool.eq_iff_iff]
  simp
end Go.Tk
/- suite.Best: the calls that its closure makes. -/
set_option linter.unusedSimpArgs false
set_option linter.unusedVariables false
set_option linter.unnecessarySimpa false
namespace Go.Tk
open Go Go.RowKit
abbrev tInts : T := .sl .int
abbrev rI (x : Int) (cs : List Value) : Prop := cs = [.int .i64 x] ∧ inI x
theorem met_call {w : World} {S : Nat → Prop} {t : Ste} {o : List Int} {v ov : Value} (ht : (reps Go.Proofs.Try.prog tSte).c w S t [v]) (ho : (reps Go.Proofs.Try.prog tInts).c w S o [ov]) (h1 : okT t) (h2 : inT t o) :
    Calls Go.Proofs.Try.prog 81 #[v, ov] w fun e w' => ∃ ao c, e = .returned (.slice ao (metL t o).length c) ∧ Below w.heap.size w w' := by
  refine ((cMet8_ok.1 rfl) w S (t, o, ()) [v, ov] ⟨v, [ov], [], [], rfl, rfl, ⟨rfl, [v], rfl, ht⟩, ov, [], [], [], rfl, rfl, ⟨rfl, [ov], rfl, ho⟩, rfl, rfl⟩ ⟨h1, h2⟩).mono ?_
  rintro e w' ⟨rs, bs, rfl, ⟨u, us, b1, b2, rfl, _, h3, rfl, _⟩, _, _, hb⟩
  obtain ⟨ob, hown, _⟩ := h3
  rcases hown with ⟨rfl, e, _⟩ | ⟨b, off, cap, cur, e, _, rfl, _⟩
  · have e : metL t o = [] := e
    rw [e]
    exact ⟨none, 0, rfl, hb⟩
  · exact ⟨_, cap, rfl, hb⟩
theorem clone_call {w : World} {S : Nat → Prop} {o : List Int} {ov : Value} (ho : (reps Go.Proofs.Try.prog tInts).c w S o [ov]) (h1 : o.length ≤ 1000000) :
    Calls Go.Proofs.Try.prog 91 #[ov] w fun e w' => ∃ (v : Value) (ob : Option (Nat × Nat)), e = .returned v ∧ repOwn rI 1 w' (fun _ => True) o v ob ∧ (∀ b off, ob = some (b, off) → w.heap.size ≤ b) ∧ Below w.heap.size w w' := by
  refine ((cCloneI_ok.1 rfl) w S (o, ()) [ov] ⟨ov, [], [], [], rfl, rfl, ⟨rfl, [ov], rfl, ho⟩, rfl, rfl⟩ h1).mono ?_
  rintro e w' ⟨rs, bs, rfl, ⟨u, us, b1, b2, rfl, rfl, h3, rfl, _⟩, _, hbs, hb⟩
  obtain ⟨ob, hown, rfl⟩ := h3
  refine ⟨u, ob, rfl, hown, ?_, hb⟩
  rintro b off rfl
  exact hbs b (by simp)
theorem cont_call {w : World} {S : Nat → Prop} {o : List Int} {ov : Value} {r : Int} (ho : (reps Go.Proofs.Try.prog tInts).c w S o [ov]) (hr : inI r) :
    Calls Go.Proofs.Try.prog 90 #[ov, .int .i64 r] w fun e w' => e = .returned (.bool (decide (r ∈ o))) ∧ Below w.heap.size w w' := by
  refine ((cContN_ok.1 rfl) w S (o, r, ()) [ov, .int .i64 r] ⟨ov, [.int .i64 r], [], [], rfl, rfl, ⟨rfl, [ov], rfl, ho⟩, .int .i64 r, [], [], [], rfl, rfl, ⟨rfl, [.int .i64 r], rfl, rfl, hr⟩, rfl, rfl⟩ trivial).mono ?_
  rintro e w' ⟨rs, bs, rfl, ⟨u, us, _, _, rfl, _, ⟨_, cs, rfl, rfl⟩, rfl, _⟩, _, _, hb⟩
  exact ⟨rfl, hb⟩
theorem all_call {w : World} {n : Nat} (hn : n ≤ 1000) :
    Calls Go.Proofs.Try.prog 67 #[.int .i64 n] w fun e w' => ∃ v, e = .returned v ∧ (reps Go.Proofs.Try.prog tInts).c w' (fun b => w.heap.size ≤ b) (nums n) [v] ∧ Below w.heap.size w w' := by
  have hin : inI (n : Int) := by unfold inI; omega
  refine ((cAll8_ok.1 rfl) w (fun _ => False) ((n : Int), ()) [.int .i64 n] ⟨.int .i64 n, [], [], [], rfl, rfl, ⟨rfl, [.int .i64 n], rfl, rfl, hin⟩, rfl, rfl⟩ ⟨show (0 : Int) ≤ n by omega, show (n : Int) ≤ 4294967296 by omega⟩).mono ?_
  rintro e w' ⟨rs, bs, rfl, ⟨u, us, b1, b2, rfl, rfl, h3, rfl, _⟩, _, hbs, hb⟩
  obtain ⟨ob, hown, rfl⟩ := h3
  refine ⟨u, rfl, ⟨u, rfl, ?_⟩, hb⟩
  have e : (cAll8.F ((n : Int), ())).1 = nums n := by
    show nums (n : Int).toNat = _
    rw [Int.toNat_natCast]
  have := repSl_of_own (S' := fun b => w.heap.size ≤ b) (R' := (reps Go.Proofs.Try.prog .int).c w' (fun b => w.heap.size ≤ b)) hown (fun b o e => hbs b (by rw [e]; simp)) fun _ _ h => h
  rw [e] at this
  exact this
theorem wait_call {w : World} {S : Nat → Prop} {t : Ste} {o : List Int} {v ov : Value} (ht : (reps Go.Proofs.Try.prog tSte).c w S t [v]) (ho : (reps Go.Proofs.Try.prog tInts).c w S o [ov]) (h1 : okT t) (h2 : inT t o) (h3 : o.length ≤ 100) :
    Calls Go.Proofs.Try.prog 88 #[v, ov] w fun e w' => e = .returned (.int .i64 (waitL t o)) ∧ inI (waitL t o) ∧ Below w.heap.size w w' := by
  refine ((cWait_ok.1 rfl) w S (t, o, ()) [v, ov] ⟨v, [ov], [], [], rfl, rfl, ⟨rfl, [v], rfl, ht⟩, ov, [], [], [], rfl, rfl, ⟨rfl, [ov], rfl, ho⟩, rfl, rfl⟩ ⟨h1, h2, h3⟩).mono ?_
  rintro e w' ⟨rs, bs, rfl, ⟨u, us, _, _, rfl, _, ⟨_, cs, rfl, rfl, hi⟩, rfl, _⟩, _, _, hb⟩
  exact ⟨rfl, hi, hb⟩
theorem open_call {w : World} {S : Nat → Prop} {t : Ste} {v : Value} (ht : (reps Go.Proofs.Try.prog tSte).c w S t [v]) (h1 : okT t) :
    Calls Go.Proofs.Try.prog 57 #[v] w fun e w' => ∃ ao c, e = .returned (.slice ao (openL t).length c) ∧ Below w.heap.size w w' := by
  refine ((cOpen8_ok.1 rfl) w S (t, ()) [v] ⟨v, [], [], [], rfl, rfl, ⟨rfl, [v], rfl, ht⟩, rfl, rfl⟩ h1).mono ?_
  rintro e w' ⟨rs, bs, rfl, ⟨u, us, b1, b2, rfl, _, h3, rfl, _⟩, _, _, hb⟩
  obtain ⟨ob, hown, _⟩ := h3
  rcases hown with ⟨rfl, e, _⟩ | ⟨b, off, cap, cur, e, _, rfl, _⟩
  · have e : openL t = [] := e
    rw [e]
    exact ⟨none, 0, rfl, hb⟩
  · exact ⟨_, cap, rfl, hb⟩

/-- append at a step of a region that draws its order. -/
theorem step_app {ops : Array Oper} {o : Oper} {a : Act} {K : Act → World → Prop} {Q : Exit → Act → World → Prop} {E : Prop} {w : World} (hgd : o.guard = none) (s x : Operand)
    (ho : o.op = .call { callee := .builtin .append, args := #[s, x], argTypes := #[25, 25] }) {xs ys : List Int} {v vy : Value} {ob : Option (Nat × Nat)} (hs : a.eval s = v) (hx : a.eval x = vy)
    (hown : repOwn rI 1 w (fun _ => True) xs v ob) (hy : repSl rI w (fun _ => True) ys vy) (hlen : xs.length + ys.length ≤ 4294967296)
    (h : ∀ v' w' ob', repOwn rI 1 w' (fun _ => True) (xs ++ ys) v' ob' → w'.os = w.os → w'.tape = w.tape → w'.output = w.output → w.heap.size ≤ w'.heap.size → (∀ i, i < w.heap.size → (∀ o, ob ≠ some (i, o)) → w'.heap[i]? = w.heap[i]?) → (∀ b o, ob' = some (b, o) → w.heap.size ≤ b ∨ ∃ o', ob = some (b, o')) → K (a.put o.dst v') w') :
    if Region.wanted o (yielded ops a.tmps) = true then Oper.wp Go.Proofs.Try.prog o a w K Q else E := by
  have hw : Region.wanted o (yielded ops a.tmps) = true := by simp [Region.wanted, hgd]
  rw [if_pos hw]
  have hty : (tys Go.Proofs.Try.prog (.sl .int)).ty 25 := (tyB_ok Go.Proofs.Try.prog (.sl .int)).1 25 (by kernel_rfl)
  obtain ⟨e, t1, t2⟩ := ty_sl hty
  obtain ⟨v', w', ob', hr, g1, g2, g3, g4, g5, g6, g7⟩ := run_append (ty := o.type) t1 t2 rfl (R := rI) (fun x cs h => by
    obtain ⟨rfl, _⟩ := h
    exact ⟨rfl, fun u hu => by rw [List.mem_singleton.1 hu]; rfl⟩) (S := fun _ => True) hown hy hlen
  unfold Oper.wp execOp
  simp only [ho, resolve, invoke, builtin, Sem.run_bind, Sem.run_pure, Result.andThen_ok, List.map_toArray, List.map_cons, List.map_nil, hs, hx, hr]
  exact h v' w' ob' g1 g2 g3 g4 g5 g6 g7
end Go.Tk
set_option linter.unusedSimpArgs false
set_option linter.unusedVariables false
set_option linter.unnecessarySimpa false
namespace Go.Tk
open Go Go.RowKit
def exK (t : Ste) (k : Nat) : List Int := ((setsL (goals8 t)).take k).foldl (stepB (goodR t)) []
theorem exK_succ (t : Ste) {i : Nat} (hi : i < 2 ^ goals8 t) : exK t (i + 1) = stepB (goodR t) (exK t i) (setOf (goals8 t) i) := stepB_take t hi
theorem exK_len (t : Ste) : ∀ k, k ≤ 2 ^ goals8 t → (exK t k).length ≤ goals8 t
  | 0, _ => by simp [exK]
  | k + 1, h => by
    rw [exK_succ t (by omega)]
    unfold stepB
    split
    · exact setOf_len _ _
    · exact exK_len t k (by omega)
def okRow (s r : List Int) : Bool := decide (sumG r s < 2)
theorem exclB_all (t : Ste) (s : List Int) : exclB t s = t.all (okRow s) := by
  unfold exclB
  have : (fun r => decide (sumG r s > 1)) = fun r => !okRow s r := by
    funext r
    unfold okRow
    rw [← decide_not, decide_eq_decide]
    omega
  rw [this, any_not_all, Bool.not_not]
abbrev cExclR : Con := { A := (.cons (.sl (.sl .int)) .nil), R := (.cons (.sl .int) (.cons .int .nil)), pre := fun x => True, F := fun x => ((if validT x.1 = 0 then exclT x.1 else []), validT x.1, ()) }
def cExclR_0 (Λ1 : (List Int) → Int → Prop) (Λ2 : Int → (List Int) → Bool → Int → Prop) (Λ3 : Int → (List Int) → Bool → Int → Prop) (Λ4 : Int → Bool → Int → (List Int) → Int → Int → Prop) (t : (List (List Int))) (y0 : (List Int)) (y1 : Int) : Prop :=
  True ∧ (if ((validT t) != (0 : Int)) = true then (([] : List Int) = y0 ∧ (validT t) = y1 ∧ True) else (okT t ∧ Λ1 ([] : List Int) (0 : Int)))
def cExclR_1 (Λ1 : (List Int) → Int → Prop) (Λ2 : Int → (List Int) → Bool → Int → Prop) (Λ3 : Int → (List Int) → Bool → Int → Prop) (Λ4 : Int → Bool → Int → (List Int) → Int → Int → Prop) (t : (List (List Int))) (y0 : (List Int)) (y1 : Int)  (out_1 : (List Int)) (bits_1 : Int) : Prop :=
  True ∧ ((0 ≤ ((goals8 t : Int)) ∧ ((goals8 t : Int)) < 64 ∧ inI ((1 : Int) * 2 ^ (Int.toNat ((goals8 t : Int))))) ∧ (if (decide (bits_1 < ((1 : Int) * 2 ^ (Int.toNat ((goals8 t : Int)))))) = true then (True ∧ ((0 ≤ bits_1 ∧ bits_1 < 4294967296 ∧ 0 ≤ ((goals8 t : Int)) ∧ ((goals8 t : Int)) ≤ 60) ∧ Λ2 bits_1 out_1 true (0 : Int))) else (out_1 = y0 ∧ (0 : Int) = y1 ∧ True)))
def cExclR_2 (Λ1 : (List Int) → Int → Prop) (Λ2 : Int → (List Int) → Bool → Int → Prop) (Λ3 : Int → (List Int) → Bool → Int → Prop) (Λ4 : Int → Bool → Int → (List Int) → Int → Int → Prop) (t : (List (List Int))) (y0 : (List Int)) (y1 : Int) (bits_1 : Int) (out_2 : (List Int)) (good_2 : Bool) (i_2 : Int) : Prop :=
  if (decide (i_2 < (List.length (setOf ((goals8 t : Int)).toNat bits_1.toNat) : Int))) = true then (if good_2 = true then (idx i_2 (List.length (setOf ((goals8 t : Int)).toNat bits_1.toNat) : Int) ∧ ((openL t).length ≤ 1000000 ∧ (True ∧ (inI (i_2 + (1 : Int)) ∧ Λ2 bits_1 out_2 (bif true then (decide ((List.getD (setOf ((goals8 t : Int)).toNat bits_1.toNat) (Int.toNat i_2) 0) ∈ (openL t))) else false) (i_2 + (1 : Int)))))) else (false = false ∧ (inI (i_2 + (1 : Int)) ∧ Λ2 bits_1 out_2 false (i_2 + (1 : Int))))) else Λ3 bits_1 out_2 good_2 (0 : Int)
def cExclR_3 (Λ1 : (List Int) → Int → Prop) (Λ2 : Int → (List Int) → Bool → Int → Prop) (Λ3 : Int → (List Int) → Bool → Int → Prop) (Λ4 : Int → Bool → Int → (List Int) → Int → Int → Prop) (t : (List (List Int))) (y0 : (List Int)) (y1 : Int) (bits_1 : Int) (out_3 : (List Int)) (good_3 : Bool) (r_3 : Int) : Prop :=
  if (decide (r_3 < (List.length t : Int))) = true then (True ∧ (if (bif true then good_3 else false) = true then Λ4 bits_1 good_3 r_3 out_3 (0 : Int) (0 : Int) else (if good_3 = true then (if (decide ((List.length (setOf ((goals8 t : Int)).toNat bits_1.toNat) : Int) > (List.length out_3 : Int))) = true then (true = true ∧ (True ∧ (if (bif true then true else false) = true then (inI (bits_1 + (1 : Int)) ∧ Λ1 (setOf ((goals8 t : Int)).toNat bits_1.toNat) (bits_1 + (1 : Int))) else (inI (bits_1 + (1 : Int)) ∧ Λ1 out_3 (bits_1 + (1 : Int)))))) else (if ((List.length (setOf ((goals8 t : Int)).toNat bits_1.toNat) : Int) == (List.length out_3 : Int)) = true then (((setOf ((goals8 t : Int)).toNat bits_1.toNat).length ≤ 1000000 ∧ out_3.length ≤ 1000000) ∧ (True ∧ (True ∧ (True ∧ (if (bif true then (bif false then true else (bif true then (decide (cmpL (setOf ((goals8 t : Int)).toNat bits_1.toNat) out_3 < 0)) else false)) else false) = true then (inI (bits_1 + (1 : Int)) ∧ Λ1 (setOf ((goals8 t : Int)).toNat bits_1.toNat) (bits_1 + (1 : Int))) else (inI (bits_1 + (1 : Int)) ∧ Λ1 out_3 (bits_1 + (1 : Int)))))))) else (false = false ∧ (True ∧ (True ∧ (if (bif true then (bif false then true else false) else false) = true then (inI (bits_1 + (1 : Int)) ∧ Λ1 (setOf ((goals8 t : Int)).toNat bits_1.toNat) (bits_1 + (1 : Int))) else (inI (bits_1 + (1 : Int)) ∧ Λ1 out_3 (bits_1 + (1 : Int))))))))) else (false = false ∧ (inI (bits_1 + (1 : Int)) ∧ Λ1 out_3 (bits_1 + (1 : Int))))))) else (false = false ∧ (if good_3 = true then (if (decide ((List.length (setOf ((goals8 t : Int)).toNat bits_1.toNat) : Int) > (List.length out_3 : Int))) = true then (true = true ∧ (True ∧ (if (bif true then true else false) = true then (inI (bits_1 + (1 : Int)) ∧ Λ1 (setOf ((goals8 t : Int)).toNat bits_1.toNat) (bits_1 + (1 : Int))) else (inI (bits_1 + (1 : Int)) ∧ Λ1 out_3 (bits_1 + (1 : Int)))))) else (if ((List.length (setOf ((goals8 t : Int)).toNat bits_1.toNat) : Int) == (List.length out_3 : Int)) = true then (((setOf ((goals8 t : Int)).toNat bits_1.toNat).length ≤ 1000000 ∧ out_3.length ≤ 1000000) ∧ (True ∧ (True ∧ (True ∧ (if (bif true then (bif false then true else (bif true then (decide (cmpL (setOf ((goals8 t : Int)).toNat bits_1.toNat) out_3 < 0)) else false)) else false) = true then (inI (bits_1 + (1 : Int)) ∧ Λ1 (setOf ((goals8 t : Int)).toNat bits_1.toNat) (bits_1 + (1 : Int))) else (inI (bits_1 + (1 : Int)) ∧ Λ1 out_3 (bits_1 + (1 : Int)))))))) else (false = false ∧ (True ∧ (True ∧ (if (bif true then (bif false then true else false) else false) = true then (inI (bits_1 + (1 : Int)) ∧ Λ1 (setOf ((goals8 t : Int)).toNat bits_1.toNat) (bits_1 + (1 : Int))) else (inI (bits_1 + (1 : Int)) ∧ Λ1 out_3 (bits_1 + (1 : Int))))))))) else (false = false ∧ (inI (bits_1 + (1 : Int)) ∧ Λ1 out_3 (bits_1 + (1 : Int))))))
def cExclR_4 (Λ1 : (List Int) → Int → Prop) (Λ2 : Int → (List Int) → Bool → Int → Prop) (Λ3 : Int → (List Int) → Bool → Int → Prop) (Λ4 : Int → Bool → Int → (List Int) → Int → Int → Prop) (t : (List (List Int))) (y0 : (List Int)) (y1 : Int) (bits_1 : Int) (good_3 : Bool) (r_3 : Int) (out_4 : (List Int)) (n_4 : Int) (i_4 : Int) : Prop :=
  if (decide (i_4 < (List.length (setOf ((goals8 t : Int)).toNat bits_1.toNat) : Int))) = true then (idx r_3 (List.length t : Int) ∧ (idx i_4 (List.length (setOf ((goals8 t : Int)).toNat bits_1.toNat) : Int) ∧ (idx (List.getD (setOf ((goals8 t : Int)).toNat bits_1.toNat) (Int.toNat i_4) 0) (List.length (List.getD t (Int.toNat r_3) ([] : List Int)) : Int) ∧ (inI (n_4 + (List.getD (List.getD t (Int.toNat r_3) ([] : List Int)) (Int.toNat (List.getD (setOf ((goals8 t : Int)).toNat bits_1.toNat) (Int.toNat i_4) 0)) 0)) ∧ (inI (i_4 + (1 : Int)) ∧ Λ4 bits_1 good_3 r_3 out_4 (n_4 + (List.getD (List.getD t (Int.toNat r_3) ([] : List Int)) (Int.toNat (List.getD (setOf ((goals8 t : Int)).toNat bits_1.toNat) (Int.toNat i_4) 0)) 0)) (i_4 + (1 : Int))))))) else (inI (r_3 + (1 : Int)) ∧ Λ3 bits_1 out_4 (decide (n_4 < (2 : Int))) (r_3 + (1 : Int)))
theorem cExclR_law (h : ∀ (t : (List (List Int))), cExclR.A.wf (t, ()) → ∀ (Λ1 : (List Int) → Int → Prop) (Λ2 : Int → (List Int) → Bool → Int → Prop) (Λ3 : Int → (List Int) → Bool → Int → Prop) (Λ4 : Int → Bool → Int → (List Int) → Int → Int → Prop), (∀ (out_1 : (List Int)) (bits_1 : Int), cExclR_1 Λ1 Λ2 Λ3 Λ4 t (if validT t = 0 then exclT t else []) (validT t) out_1 bits_1 → Λ1 out_1 bits_1) → (∀ (bits_1 : Int) (out_2 : (List Int)) (good_2 : Bool) (i_2 : Int), cExclR_2 Λ1 Λ2 Λ3 Λ4 t (if validT t = 0 then exclT t else []) (validT t) bits_1 out_2 good_2 i_2 → Λ2 bits_1 out_2 good_2 i_2) → (∀ (bits_1 : Int) (out_3 : (List Int)) (good_3 : Bool) (r_3 : Int), cExclR_3 Λ1 Λ2 Λ3 Λ4 t (if validT t = 0 then exclT t else []) (validT t) bits_1 out_3 good_3 r_3 → Λ3 bits_1 out_3 good_3 r_3) → (∀ (bits_1 : Int) (good_3 : Bool) (r_3 : Int) (out_4 : (List Int)) (n_4 : Int) (i_4 : Int), cExclR_4 Λ1 Λ2 Λ3 Λ4 t (if validT t = 0 then exclT t else []) (validT t) bits_1 good_3 r_3 out_4 n_4 i_4 → Λ4 bits_1 good_3 r_3 out_4 n_4 i_4) → cExclR_0 Λ1 Λ2 Λ3 Λ4 t (if validT t = 0 then exclT t else []) (validT t)) : ConOK Go.Proofs.Try.prog 20 cExclR := by
  refine lawL (Γ := [(65, cBefore8r), (62, cGoals8r), (64, cHas8r), (61, cOpen8r), (63, cSub8r), (36, cVal8r)]) (Θ := Th) (n := 98) [([1, 1, 1, 1, 1, 0, 1, 0], ⟨[(0, false), (5, true), (6, true), (7, true)], [(20, true)]⟩), ([1, 1, 1, 1, 1, 0, 1, 0, 0, 1, 0, 0, 1, 1, 0, 1, 0], ⟨[(0, false), (5, true), (6, true), (7, true), (8, true), (9, true), (10, true)], [(20, true), (31, true)]⟩), ([1, 1, 1, 1, 1, 0, 1, 0, 0, 1, 0, 0, 1, 1, 1, 0, 1, 0], ⟨[(0, false), (5, true), (6, true), (7, true), (8, true), (9, true), (11, true)], [(20, true), (31, true)]⟩), ([1, 1, 1, 1, 1, 0, 1, 0, 0, 1, 0, 0, 1, 1, 1, 0, 1, 0, 0, 1, 0, 0, 1, 0, 1, 0], ⟨[(0, false), (5, true), (6, true), (7, true), (8, true), (11, true), (12, true), (13, true), (52, true)], [(20, true), (31, true)]⟩)] ⟨cBefore8r_ok, cGoals8r_ok, cHas8r_ok, cOpen8r_ok, cSub8r_ok, cVal8r_ok, trivial⟩ (by kernel_rfl) th_ok mix_ok Go.Proofs.Try.func20 (by kernel_rfl) ?_
  intro x hw hp Λ hC
  have h0 := h x.1 hw (fun out_1 bits_1 => Λ [1, 1, 1, 1, 1, 0, 1, 0] ([(0, .d false (.sl (.sl .int)) x.1), (5, .own 20 0), (6, .d true (.sl .int) out_1), (7, .d true .int bits_1)], [(20, .sl true .int (openL x.1))])) (fun bits_1 out_2 good_2 i_2 => Λ [1, 1, 1, 1, 1, 0, 1, 0, 0, 1, 0, 0, 1, 1, 0, 1, 0] ([(0, .d false (.sl (.sl .int)) x.1), (5, .own 20 0), (6, .d true (.sl .int) out_2), (7, .d true .int bits_1), (8, .own 31 0), (9, .d true .bool good_2), (10, .d true .int i_2)], [(20, .sl true .int (openL x.1)), (31, .sl true .int (setOf ((goals8 x.1 : Int)).toNat bits_1.toNat))])) (fun bits_1 out_3 good_3 r_3 => Λ [1, 1, 1, 1, 1, 0, 1, 0, 0, 1, 0, 0, 1, 1, 1, 0, 1, 0] ([(0, .d false (.sl (.sl .int)) x.1), (5, .own 20 0), (6, .d true (.sl .int) out_3), (7, .d true .int bits_1), (8, .own 31 0), (9, .d true .bool good_3), (11, .d true .int r_3)], [(20, .sl true .int (openL x.1)), (31, .sl true .int (setOf ((goals8 x.1 : Int)).toNat bits_1.toNat))])) (fun bits_1 good_3 r_3 out_4 n_4 i_4 => Λ [1, 1, 1, 1, 1, 0, 1, 0, 0, 1, 0, 0, 1, 1, 1, 0, 1, 0, 0, 1, 0, 0, 1, 0, 1, 0] ([(0, .d false (.sl (.sl .int)) x.1), (5, .own 20 0), (6, .d true (.sl .int) out_4), (7, .d true .int bits_1), (8, .own 31 0), (11, .d true .int r_3), (12, .d true .int n_4), (13, .d true .int i_4), (52, .d true .bool good_3)], [(20, .sl true .int (openL x.1)), (31, .sl true .int (setOf ((goals8 x.1 : Int)).toNat bits_1.toNat))])) (fun out_1 bits_1 hb => hC [1, 1, 1, 1, 1, 0, 1, 0] ([(0, .d false (.sl (.sl .int)) x.1), (5, .own 20 0), (6, .d true (.sl .int) out_1), (7, .d true .int bits_1)], [(20, .sl true .int (openL x.1))]) (Eq.mpr (by kernel_rfl) hb)) (fun bits_1 out_2 good_2 i_2 hb => hC [1, 1, 1, 1, 1, 0, 1, 0, 0, 1, 0, 0, 1, 1, 0, 1, 0] ([(0, .d false (.sl (.sl .int)) x.1), (5, .own 20 0), (6, .d true (.sl .int) out_2), (7, .d true .int bits_1), (8, .own 31 0), (9, .d true .bool good_2), (10, .d true .int i_2)], [(20, .sl true .int (openL x.1)), (31, .sl true .int (setOf ((goals8 x.1 : Int)).toNat bits_1.toNat))]) (Eq.mpr (by kernel_rfl) hb)) (fun bits_1 out_3 good_3 r_3 hb => hC [1, 1, 1, 1, 1, 0, 1, 0, 0, 1, 0, 0, 1, 1, 1, 0, 1, 0] ([(0, .d false (.sl (.sl .int)) x.1), (5, .own 20 0), (6, .d true (.sl .int) out_3), (7, .d true .int bits_1), (8, .own 31 0), (9, .d true .bool good_3), (11, .d true .int r_3)], [(20, .sl true .int (openL x.1)), (31, .sl true .int (setOf ((goals8 x.1 : Int)).toNat bits_1.toNat))]) (Eq.mpr (by kernel_rfl) hb)) (fun bits_1 good_3 r_3 out_4 n_4 i_4 hb => hC [1, 1, 1, 1, 1, 0, 1, 0, 0, 1, 0, 0, 1, 1, 1, 0, 1, 0, 0, 1, 0, 0, 1, 0, 1, 0] ([(0, .d false (.sl (.sl .int)) x.1), (5, .own 20 0), (6, .d true (.sl .int) out_4), (7, .d true .int bits_1), (8, .own 31 0), (11, .d true .int r_3), (12, .d true .int n_4), (13, .d true .int i_4), (52, .d true .bool good_3)], [(20, .sl true .int (openL x.1)), (31, .sl true .int (setOf ((goals8 x.1 : Int)).toNat bits_1.toNat))]) (Eq.mpr (by kernel_rfl) hb))
  exact Eq.mpr (by kernel_rfl) h0
theorem cExclR_ok : ConOK Go.Proofs.Try.prog 20 cExclR := by
  refine cExclR_law ?_
  intro t hw Λ1 Λ2 Λ3 Λ4 h1 h2 h3 h4
  unfold cExclR_0
  refine ⟨trivial, ?_⟩
  by_cases h0 : validT t = 0
  · rw [if_neg (by simp [h0])]
    rw [if_pos h0, h0] at h1 h2 h3 h4
    have ht := validT_ok.1 h0
    have h8 := ht.1
    obtain ⟨G, hG⟩ : ∃ G, G = goals8 t := ⟨_, rfl⟩
    have hG10 : G ≤ 10 := by rw [hG]; exact ht.2.1
    have h2n : 2 ^ G ≤ 1024 := Nat.le_trans (Nat.pow_le_pow_right (by omega) hG10) (by decide)
    obtain ⟨N, hN⟩ : ∃ N : Nat, N = 2 ^ G := ⟨_, rfl⟩
    rw [← hN] at h2n
    have e : (1 : Int) * 2 ^ (Int.toNat ((goals8 t : Nat) : Int)) = (N : Int) := by rw [Int.toNat_natCast, ← hG, Int.one_mul, hN]; norm_cast
    have hpl : (openL t).length ≤ 1000000 := by have := openL_len t; omega
    refine ⟨ht, ?_⟩
    refine upto (n := N) (Q := fun b => Λ1 (exK t b) b) ?_ ?_ 0 (Nat.zero_le _)
    · apply h1; unfold cExclR_1
      refine ⟨trivial, ⟨by omega, by omega, by rw [e]; unfold inI; omega⟩, ?_⟩
      rw [if_neg (by rw [decide_eq_true_eq, e]; omega)]
      refine ⟨?_, rfl, trivial⟩
      rw [← excl_same]
      unfold exK
      rw [List.take_of_length_le (by rw [setsL_len, ← hG, ← hN]; exact Nat.le_refl _)]
    · intro b hb ih
      apply h1; unfold cExclR_1
      refine ⟨trivial, ⟨by omega, by omega, by rw [e]; unfold inI; omega⟩, ?_⟩
      rw [if_pos (by rw [decide_eq_true_eq, e]; omega)]
      refine ⟨trivial, ⟨by omega, by omega, by omega, by omega⟩, ?_⟩
      rw [exK_succ t (by rw [← hG, ← hN]; exact hb)] at ih
      have hol : (exK t b).length ≤ 1000000 := by
        have := exK_len t b (by rw [← hG, ← hN]; omega)
        omega
      generalize exK t b = out at ih hol ⊢
      have hin : inI ((b : Int) + 1) := by unfold inI; omega
      obtain ⟨S, hS⟩ : ∃ S, S = setOf (goals8 t) b := ⟨_, rfl⟩
      have hSl : S.length ≤ 10 := by rw [hS]; have := setOf_len (goals8 t) b; omega
      have hSm : ∀ g ∈ S, 0 ≤ g ∧ g < goals8 t := fun g hg => setOf_mem (by rw [← hS]; exact hg)
      rw [← hS] at ih
      have hSe : setOf (Int.toNat ((goals8 t : Nat) : Int)) (Int.toNat (b : Int)) = S := by rw [Int.toNat_natCast, Int.toNat_natCast, hS]
      have hno : goodR t S = false → Λ1 out ((b : Int) + 1) := fun h => by
        unfold stepB at ih
        rw [if_neg (by simp [h])] at ih
        exact ih
      have ih' : goodR t S = true → Λ1 (if better S out = true then S else out) ((b : Int) + 1) := fun h => by
        unfold stepB at ih
        simp only [h, and_true] at ih
        exact ih
      clear ih
      obtain ⟨g0, hg0⟩ : ∃ g0, g0 = S.all fun g => decide (g ∈ openL t) := ⟨_, rfl⟩
      have hgood : goodR t S = (g0 && t.all (okRow S)) := by unfold goodR; rw [exclB_all, hg0]
      have hend : ∀ r : Nat, r ≤ t.length → ∀ gd, gd = (g0 && (t.take r).all (okRow S)) → Λ3 (b : Int) out gd (r : Int) := by
        refine upto ?_ ?_
        · intro gd hgd
          rw [List.take_length, ← hgood] at hgd
          apply h3; unfold cExclR_3
          rw [if_neg (by simp), hSe]
          cases gd
          · rw [if_neg (by simp)]
            exact ⟨rfl, rfl, hin, hno hgd.symm⟩
          · have ih2 := ih' hgd.symm
            rw [if_pos rfl]
            refine ⟨rfl, ?_⟩
            by_cases g1 : S.length > out.length
            · rw [if_pos (by simpa using g1)]
              rw [if_pos (better_iff.2 (.inl g1))] at ih2
              refine ⟨rfl, trivial, ?_⟩
              rw [if_pos (by rfl)]
              exact ⟨hin, ih2⟩
            · rw [if_neg (by simpa using g1)]
              by_cases g2 : S.length = out.length
              · rw [if_pos (by simp [g2])]
                refine ⟨⟨by omega, hol⟩, trivial, trivial, trivial, ?_⟩
                by_cases g3 : cmpL S out < 0
                · rw [if_pos (by simpa using g3)]
                  rw [if_pos (better_iff.2 (.inr ⟨g2, g3⟩))] at ih2
                  exact ⟨hin, ih2⟩
                · rw [if_neg (by simpa using g3)]
                  rw [if_neg (by rw [better_iff]; omega)] at ih2
                  exact ⟨hin, ih2⟩
              · rw [if_neg (by simp; omega)]
                rw [if_neg (by rw [better_iff]; omega)] at ih2
                refine ⟨rfl, trivial, trivial, ?_⟩
                rw [if_neg (by simp)]
                exact ⟨hin, ih2⟩
        · intro r hr ihr gd hgd
          apply h3; unfold cExclR_3
          rw [if_pos (by simpa using hr), hSe]
          refine ⟨trivial, ?_⟩
          cases gd
          · rw [if_neg (by simp), if_neg (by simp)]
            refine ⟨rfl, hin, hno ?_⟩
            rw [hgood]
            have hsp : t.all (okRow S) = ((t.take r).all (okRow S) && (t.drop r).all (okRow S)) := by rw [← List.all_append, List.take_append_drop]
            rw [hsp, ← Bool.and_assoc, ← hgd]; rfl
          · rw [if_pos (by rfl)]
            have hrl := okT_row ht hr
            have hr01 : ∀ x ∈ t.getD r [], x = 0 ∨ x = 1 := (ht.2.2 _ (mem_getD hr)).2
            have hv : ∀ g ∈ S, 0 ≤ (t.getD r []).getD g.toNat 0 ∧ (t.getD r []).getD g.toNat 0 ≤ 1 := fun g hg => by
              have q := hSm g hg
              rcases hr01 _ (mem_getD (d := 0) (i := g.toNat) (by omega)) with e | e <;> rw [e] <;> omega
            have hsb : ∀ i, 0 ≤ ((S.take i).map fun g => (t.getD r []).getD g.toNat 0).sum ∧ ((S.take i).map fun g => (t.getD r []).getD g.toNat 0).sum ≤ S.length := sum01 hv
            refine upto (n := S.length) (Q := fun i => Λ4 (b : Int) true (r : Int) out (((S.take i).map fun g => (t.getD r []).getD g.toNat 0).sum) (i : Int)) ?_ ?_ 0 (Nat.zero_le _)
            · apply h4; unfold cExclR_4
              rw [hSe, if_neg (by simp), List.take_length]
              refine ⟨by unfold inI; omega, ihr _ ?_⟩
              rw [take_snoc [] hr, List.all_append, ← Bool.and_assoc, ← hgd]
              simp only [List.all_cons, List.all_nil, Bool.and_true, Bool.true_and]
              rfl
            · intro i hi ihi
              apply h4; unfold cExclR_4
              rw [hSe, if_pos (by simpa using hi), Int.toNat_natCast, Int.toNat_natCast]
              have h5 := hsb i
              have h6 := hSm _ (mem_getD (d := 0) hi)
              have h7 := hv _ (mem_getD (d := 0) hi)
              rw [sum_take (f := fun g => (t.getD r []).getD g.toNat 0) hi] at ihi
              generalize S.getD i 0 = g at h6 h7 ihi ⊢
              exact ⟨idx_nat hr, idx_nat hi, ⟨h6.1, by omega⟩, by unfold inI; omega, by unfold inI; omega, ihi⟩
      refine upto (n := S.length) (Q := fun i => Λ2 (b : Int) out ((S.take i).all fun g => decide (g ∈ openL t)) (i : Int)) ?_ ?_ 0 (Nat.zero_le _)
      · apply h2; unfold cExclR_2
        rw [hSe, if_neg (by simp), List.take_length, ← hg0]
        exact hend 0 (Nat.zero_le _) g0 (by simp)
      · intro i hi ihi
        apply h2; unfold cExclR_2
        rw [hSe, if_pos (by simpa using hi)]
        rw [take_snoc 0 hi, List.all_append] at ihi
        have hini : inI ((i : Int) + 1) := by unfold inI; omega
        cases hp : (S.take i).all fun g => decide (g ∈ openL t)
        · rw [hp] at ihi
          rw [if_neg (by simp)]
          exact ⟨rfl, hini, ihi⟩
        · rw [hp] at ihi
          rw [if_pos rfl]
          refine ⟨idx_nat hi, hpl, trivial, hini, ?_⟩
          rw [Int.toNat_natCast]
          simpa using ihi
  · rw [if_pos (by simp [h0]), if_neg h0]
    exact ⟨rfl, rfl, trivial⟩
abbrev cExcludesL : Con := { A := (.cons (.sl (.sl .int)) .nil), R := (.cons .bool .nil), pre := fun x => True, F := fun x => (true, ()) }
def cExcludesL_0  (t : (List (List Int))) (y0 : Bool) : Prop :=
  True ∧ (if (longT t) = true then (True ∧ (true = y0 ∧ True)) else (True ∧ (True ∧ (True ∧ (if (decide (((if validT t = 0 then exclT t else [])) = ((if validT t = 0 then exclT t else [])))) = true then (True ∧ (if (bif true then ((validT t) == (validT t)) else false) = true then (True ∧ (True ∧ ((bif true then true else false) = y0 ∧ True))) else (false = false ∧ (false = y0 ∧ True)))) else (false = false ∧ (false = false ∧ (false = y0 ∧ True))))))))
theorem cExcludesL_law (h : ∀ (t : (List (List Int))), cExcludesL.A.wf (t, ()) → cExcludesL_0  t true) : ConOK Go.Proofs.Try.prog 3 cExcludesL := by
  refine lawL (Γ := [(20, cExclR), (19, cExcluding), (17, cLong8), (21, cSameI8), (18, cSane8)]) (Θ := Th) (n := 31) [] ⟨cExclR_ok, cExcluding_ok, cLong8_ok, cSameI8_ok, cSane8_ok, trivial⟩ (by kernel_rfl) th_ok mix_ok Go.Proofs.Try.func3 (by kernel_rfl) ?_
  intro x hw hp Λ hC
  have h0 := h x.1 hw  
  exact Eq.mpr (by kernel_rfl) h0
theorem cExcludesL_ok : ConOK Go.Proofs.Try.prog 3 cExcludesL := by
  refine cExcludesL_law ?_
  intro t hw
  unfold cExcludesL_0
  refine ⟨trivial, ?_⟩
  cases hL : longT t
  · rw [if_neg (by simp)]
    simp
  · rw [if_pos rfl]
    exact ⟨trivial, rfl, trivial⟩
end Go.Tk
/- Plain facts of layer 8: rows that add nothing are left out. No program in sight. -/
set_option linter.unusedSimpArgs false
set_option linter.unusedVariables false
set_option linter.unnecessarySimpa false
namespace Go.Tk
open Go Go.RowKit

def bkI (xs : List Int) : Nat → List (Int × Int × Unit)
  | 0 => []
  | n + 1 => ((n : Int), xs.getD n 0, ()) :: bkI xs n
theorem bkI_len (h : List Int) : ∀ n, (bkI h n).length = n
  | 0 => rfl
  | n + 1 => by unfold bkI; rw [List.length_cons, bkI_len h n]
theorem bkI_get (h : List Int) : ∀ n k, k < n → (bkI h n)[k]? = some (((n - 1 - k : Nat) : Int), h.getD (n - 1 - k) 0, ())
  | 0, _, hk => by omega
  | n + 1, 0, hk => by unfold bkI; simp
  | n + 1, k + 1, hk => by
    unfold bkI
    rw [List.getElem?_cons_succ, bkI_get h n k (by omega), show n + 1 - 1 - (k + 1) = n - 1 - k by omega]

def cutAt (l : List Int) (i : Nat) : List Int := l.take i ++ l.drop (i + 1)
def stepL (t : Ste) (goal : Nat) (out : List Int) (i : Nat) : List Int := if (metL t (cutAt out i)).length = goal then cutAt out i else out
def leastF (t : Ste) (goal : Nat) : Nat → List Int → List Int
  | 0, out => out
  | n + 1, out => leastF t goal n (stepL t goal out n)
def leastT (t : Ste) (l : List Int) : List Int := leastF t (metL t l).length l.length l

theorem cutAt_len {l : List Int} {i : Nat} (h : i < l.length) : (cutAt l i).length = l.length - 1 := by
  unfold cutAt
  rw [List.length_append, List.length_take, List.length_drop]; omega
theorem cutAt_sub (l : List Int) (i : Nat) : (cutAt l i).Sublist l := by
  unfold cutAt
  rw [← List.eraseIdx_eq_take_drop_succ]
  exact List.eraseIdx_sublist ..
theorem cutAt_drop {l : List Int} {i : Nat} (h : i < l.length) : (cutAt l i).drop i = l.drop (i + 1) := by
  unfold cutAt
  rw [List.drop_append, List.length_take, Nat.min_eq_left (by omega), Nat.sub_self, List.drop_zero, List.drop_eq_nil_of_le (by rw [List.length_take]; omega)]
  rfl
theorem stepL_sub (t : Ste) (goal : Nat) (out : List Int) (i : Nat) : (stepL t goal out i).Sublist out := by
  unfold stepL
  split
  · exact cutAt_sub _ _
  · exact List.Sublist.refl _
theorem stepL_len {t : Ste} {goal : Nat} {out : List Int} {i : Nat} (h : i < out.length) : i ≤ (stepL t goal out i).length := by
  unfold stepL
  split
  · rw [cutAt_len h]; omega
  · omega
theorem stepL_met {t : Ste} {goal : Nat} {out : List Int} {i : Nat} (h : (metL t out).length = goal) : (metL t (stepL t goal out i)).length = goal := by
  unfold stepL
  split
  · assumption
  · exact h
theorem drop_mem {l : List Int} {n : Nat} (h : n < l.length) {x : Int} (hx : x ∈ l.drop n) : x = l.getD n 0 ∨ x ∈ l.drop (n + 1) := by
  have e1 : l.drop n = l.getD n 0 :: l.drop (n + 1) := by rw [List.drop_eq_getElem_cons h]; simp [List.getD_eq_getElem?_getD, h]
  rw [e1] at hx
  exact List.mem_cons.1 hx
theorem mem_cut {l : List Int} {n : Nat} (h : n < l.length) {y : Int} (hy : y ∈ l) (hne : y ≠ l.getD n 0) : y ∈ cutAt l n := by
  unfold cutAt
  rw [← List.take_append_drop n l] at hy
  rcases List.mem_append.1 hy with hy | hy
  · exact List.mem_append.2 (.inl hy)
  · rcases drop_mem h hy with e | e
    · exact absurd e hne
    · exact List.mem_append.2 (.inr e)

/-- What is left: a part of it that meets the same, and of which nothing more can be left out. -/
theorem leastF_spec (t : Ste) (goal : Nat) : ∀ (n : Nat) (out : List Int), n ≤ out.length → (metL t out).length = goal →
    (leastF t goal n out).Sublist out ∧ (metL t (leastF t goal n out)).length = goal ∧ ∀ x ∈ leastF t goal n out, ¬ x ∈ out.drop n → ∀ L : List Int, (∀ y ∈ L, y ∈ leastF t goal n out ∧ y ≠ x) → (metL t L).length < goal
  | 0, out, _, hg => ⟨List.Sublist.refl _, hg, fun x hx hn => absurd (show x ∈ out from hx) (by simpa using hn)⟩
  | n + 1, out, hl, hg => by
    obtain ⟨h1, h2, h3⟩ := leastF_spec t goal n (stepL t goal out n) (stepL_len (by omega)) (stepL_met hg)
    refine ⟨h1.trans (stepL_sub _ _ _ _), h2, fun x hx hn L hL => ?_⟩
    change x ∈ leastF t goal n (stepL t goal out n) at hx
    change ∀ y ∈ L, y ∈ leastF t goal n (stepL t goal out n) ∧ y ≠ x at hL
    by_cases hc : (metL t (cutAt out n)).length = goal
    · have e : stepL t goal out n = cutAt out n := by unfold stepL; rw [if_pos hc]
      rw [e] at h3 hx hL
      refine h3 x hx ?_ L hL
      rw [cutAt_drop (by omega)]
      exact hn
    · have e : stepL t goal out n = out := by unfold stepL; rw [if_neg hc]
      rw [e] at h1 h3 hx hL
      by_cases hd : x ∈ out.drop n
      · have hxe : x = out.getD n 0 := (drop_mem (by omega) hd).resolve_right hn
        have hle : (metL t L).length ≤ (metL t (cutAt out n)).length := met_mono fun y hy => mem_cut (by omega) (h1.mem (hL y hy).1) (by rw [← hxe]; exact (hL y hy).2)
        have hle2 : (metL t (cutAt out n)).length ≤ (metL t out).length := met_mono fun y hy => (cutAt_sub out n).mem hy
        omega
      · exact h3 x hx hd L hL

theorem isSet8_pair {l : List Int} {n : Nat} : isSet8 l n = true ↔ l.Pairwise (· < ·) ∧ ∀ r ∈ l, 0 ≤ r ∧ r < n := by
  constructor
  · intro h
    have h0 := isSet8_iff.1 h
    refine ⟨?_, ?_⟩
    · rw [List.pairwise_iff_getElem]
      intro i j hi hj hij
      have key : ∀ k, i + k + 1 < l.length → l.getD i 0 < l.getD (i + k + 1) 0 := by
        intro k
        induction k with
        | zero => intro hk; exact ((h0 (i + 1) hk).2.resolve_left (by omega))
        | succ k ih =>
          intro hk
          have := ih (by omega)
          have h2 := (h0 (i + (k + 1) + 1) hk).2.resolve_left (by omega)
          rw [show i + (k + 1) + 1 - 1 = i + k + 1 by omega] at h2
          omega
      have := key (j - i - 1) (by omega)
      rw [show i + (j - i - 1) + 1 = j by omega] at this
      simpa [List.getD_eq_getElem?_getD, hi, hj] using this
    · intro r hr
      obtain ⟨i, hi, e⟩ := List.mem_iff_getElem.1 hr
      have := (h0 i hi).1
      rw [List.getD_eq_getElem?_getD, List.getElem?_eq_getElem hi, Option.getD_some, e] at this
      exact this
  · rintro ⟨h1, h2⟩
    rw [isSet8_iff]
    intro i hi
    refine ⟨h2 _ (mem_getD hi), ?_⟩
    by_cases h0 : i = 0
    · exact .inl h0
    · right
      have := (List.pairwise_iff_getElem.1 h1) (i - 1) i (by omega) hi (by omega)
      simpa [List.getD_eq_getElem?_getD, hi, show i - 1 < l.length by omega] using this

theorem filt_eq {α : Type} {p q : α → Bool} : ∀ {l : List α}, (∀ x ∈ l, p x = true → q x = true) → (l.filter p).length = (l.filter q).length → l.filter p = l.filter q
  | [], _, _ => rfl
  | x :: l, h, hl => by
    have hle := filt_le (p := p) (q := q) (l := l) fun y hy => h y (by simp [hy])
    have hx := h x (by simp)
    cases hp : p x <;> cases hq : q x
    · simp only [List.filter_cons, hp, hq, Bool.false_eq_true, if_false] at hl ⊢
      exact filt_eq (fun y hy => h y (by simp [hy])) hl
    · simp only [List.filter_cons, hp, hq, Bool.false_eq_true, if_false, if_true, List.length_cons] at hl
      omega
    · rw [hx hp] at hq; cases hq
    · simp only [List.filter_cons, hp, hq, if_true, List.length_cons] at hl ⊢
      rw [filt_eq (fun y hy => h y (by simp [hy])) (by omega)]
theorem met_eq {t : Ste} {l l' : List Int} (h : ∀ r ∈ l, r ∈ l') (hl : (metL t l).length = (metL t l').length) : metL t l = metL t l' := by
  rw [metL_length, metL_length] at hl
  unfold metL
  rw [filt_eq (fun g _ hg => by
    rw [List.any_eq_true] at hg ⊢
    obtain ⟨r, hr, e⟩ := hg
    exact ⟨r, h r hr, e⟩) hl]

theorem least_sub {t : Ste} {l : List Int} : (leastT t l).Sublist l := (leastF_spec t _ l.length l (Nat.le_refl _) rfl).1
theorem least_met {t : Ste} {l : List Int} : metL t (leastT t l) = metL t l := met_eq (fun r hr => least_sub.mem hr) (leastF_spec t _ l.length l (Nat.le_refl _) rfl).2.1
theorem leastF_same {t : Ste} {goal : Nat} {a : List Int} (h : ∀ i, i < a.length → (metL t (cutAt a i)).length ≠ goal) : ∀ n, n ≤ a.length → leastF t goal n a = a
  | 0, _ => rfl
  | n + 1, hn => by
    show leastF t goal n (stepL t goal a n) = a
    have e : stepL t goal a n = a := by unfold stepL; rw [if_neg (h n (by omega))]
    rw [e]
    exact leastF_same h n (by omega)
theorem least_again {t : Ste} {l : List Int} (hl : l.Pairwise (· < ·)) : leastT t (leastT t l) = leastT t l := by
  have hp : (leastT t l).Pairwise (· < ·) := hl.sublist least_sub
  have h3 := (leastF_spec t _ l.length l (Nat.le_refl _) rfl).2.2
  have hm := least_met (t := t) (l := l)
  show leastF t (metL t (leastT t l)).length (leastT t l).length (leastT t l) = leastT t l
  rw [hm]
  refine leastF_same (fun i hi => ?_) _ (Nat.le_refl _)
  have hx := mem_getD (d := 0) hi
  have := h3 _ hx (by simp) (cutAt (leastT t l) i) (fun y hy => ⟨(cutAt_sub _ _).mem hy, ?_⟩)
  · omega
  · rw [List.pairwise_iff_getElem] at hp
    have ex : (leastT t l).getD i 0 = (leastT t l)[i] := by simp [List.getD_eq_getElem?_getD, hi]
    rw [ex]
    unfold cutAt at hy
    rcases List.mem_append.1 hy with hy | hy
    · obtain ⟨j, hj, e⟩ := List.mem_take_iff_getElem.1 hy
      have := hp j i (by omega) hi (by omega)
      omega
    · obtain ⟨j, hj, e⟩ := List.mem_iff_getElem.1 hy
      rw [List.getElem_drop] at e
      rw [List.length_drop] at hj
      have := hp i (i + 1 + j) hi (by omega) (by omega)
      omega
theorem least_rows {t : Ste} {l : List Int} (h : rowsT t l = 0) (hv : validT t = 0) (hs : isSet8 l t.length = true) : rowsT t (leastT t l) = 0 := by
  obtain ⟨h1, h2⟩ := isSet8_pair.1 hs
  unfold rowsT
  rw [if_pos hv, argErr_zero]
  exact isSet8_pair.2 ⟨h1.sublist least_sub, fun r hr => h2 r (least_sub.mem hr)⟩

end Go.Tk
set_option linter.unusedSimpArgs false
set_option linter.unusedVariables false
set_option linter.unnecessarySimpa false
namespace Go.Proofs
open Go.RowKit Go.Sort Go.Shelf
shelf_lay_g SlLaysE.n45 Slgn 45 at Try 86 as Try.deleteI
end Go.Proofs
namespace Go.Tk
open Go Go.RowKit
theorem int_zero (w : World) : (zeroValue 3).run Go.Proofs.Try.prog w = .ok (.int .i64 0) w := by kernel_rfl
theorem int_info : ∃ i0, Go.Proofs.Try.prog.info? 3 = some i0 ∧ i0.size = 1 := by
  obtain ⟨fi, i1, i2, _⟩ := tys_info ((tyB_ok Go.Proofs.Try.prog .int).1 3 (by kernel_rfl))
  exact ⟨fi, i1, i2⟩
abbrev cDelI : InC := { a := .int, B := (.cons .int (.cons .int .nil)), pre := fun xs x => 0 ≤ x.1 ∧ x.1 < x.2.1 ∧ x.2.1 ≤ xs.length, F := fun xs x => xs.take x.1.toNat ++ xs.drop x.2.1.toNat, ret := true }
theorem cDelI_ok : FunOK Go.Proofs.Try.prog 86 ∧ InF Go.Proofs.Try.prog 86 cDelI := by
  refine ⟨funB_ok (by kernel_rfl), ?_⟩
  rintro w S xs ⟨i, j, ⟨⟩⟩ v ob vs hown hnS hv hp
  change List Int at xs
  change Int at i
  change Int at j
  obtain ⟨p1, p2, p3⟩ : 0 ≤ i ∧ i < j ∧ j ≤ xs.length := hp
  obtain ⟨v1, vs1, b1, b2, rfl, _, h1, h2⟩ := hv
  obtain ⟨v2, vs2, b3, b4, rfl, _, h3, h4⟩ := h2
  obtain ⟨rfl, _⟩ : vs2 = [] ∧ _ := h4
  obtain ⟨_, c1, rfl, q1, _⟩ := h1
  obtain ⟨_, c2, rfl, q2, _⟩ := h3
  change c1 = [.int .i64 i] at q1
  change c2 = [.int .i64 j] at q2
  subst q1
  subst q2
  obtain ⟨a, rfl⟩ : ∃ a : Nat, i = a := ⟨i.toNat, by omega⟩
  obtain ⟨c, rfl⟩ : ∃ c : Nat, j = c := ⟨j.toNat, by omega⟩
  rcases hown with ⟨rfl, rfl, rfl⟩ | ⟨b, off, cap, cur, e, rfl, rfl, _, h4, h5, h6, h7, h8⟩
  · simp at p3; omega
  · obtain ⟨hx, hin⟩ := repL_ints h8
    have hx : (cur.toList.drop off).take (xs.length * 1) = xs.map (Value.int .i64) := hx
    have hcapm : off + cap * 1 ≤ cur.size := h7
    have hb : b < w.heap.size := (Array.getElem?_eq_some_iff.1 h4).1
    have hH : Sort.Holds (Value.int .i64) w b off xs.toArray := by
      intro j hj
      have hj : j < xs.length := by simpa using hj
      constructor
      · rw [cell_of_row w b (off + j) cur e (0, 0) h4]
        have h1 := congrArg (fun l => l[j]?) hx
        simp only [List.getElem?_take, List.getElem?_drop, List.getElem?_map] at h1
        rw [if_pos (by omega), List.getElem?_eq_getElem hj] at h1
        rw [← Array.getElem?_toList, h1]
        simp [hj]
      · unfold World.frozen?
        rw [h4]
        simp
    obtain ⟨i0, hi0, hz1⟩ := int_info
    have hlen : (xs.take a ++ xs.drop c ++ List.replicate (c - a) 0).length = xs.length := by
      simp only [List.length_append, List.length_take, List.length_drop, List.length_replicate]; omega
    have hzl : (xs.take a ++ xs.drop c).length = xs.length - (c - a) := by
      simp only [List.length_append, List.length_take, List.length_drop]; omega
    refine (Go.Proofs.AnyE.slices_Delete Go.Proofs.Try.deleteI (Value.int .i64) (fun _ => rfl) 0 int_zero i0 hi0 hz1 b off cap a c xs.toArray w hH (by simpa using h5) h6.2 (by omega) (by simp; omega)).mono ?_
    rintro en w' ⟨rfl, n, hw'⟩
    have hw' : w' = Sort.putRow (Value.int .i64) (Sort.ahead w n) b off (xs.take a ++ xs.drop c ++ List.replicate (c - a) 0).toArray := hw'
    subst hw'
    obtain ⟨cur', c1, c2, c3⟩ := putRow_heap (n := n) h4 hlen hx
    have hcells : (cur'.toList.drop off).take ((xs.take a ++ xs.drop c).length * 1) = (xs.take a ++ xs.drop c).map (Value.int .i64) := by
      have h1 := congrArg (List.take (xs.take a ++ xs.drop c).length) c3
      have hmin : min (xs.take a ++ xs.drop c).length ((xs.take a ++ xs.drop c ++ List.replicate (c - a) 0).length * 1) = (xs.take a ++ xs.drop c).length * 1 := by rw [hlen, hzl]; omega
      rw [List.take_take, hmin, List.map_append, List.take_left' (by rw [List.length_map])] at h1
      exact h1
    refine ⟨.slice (some ⟨b, off, none⟩) (xs.length - (c - a)) cap, some (b, off), rfl, .inr ⟨b, off, cap, cur', e, rfl, ?_, trivial, c1, ?_, ?_, ?_, ?_⟩, fun b' o e => .inr ⟨o, e⟩, ?_⟩
    · show _ = Value.slice _ (xs.take a ++ xs.drop c).length cap
      rw [hzl]
    · show (xs.take a ++ xs.drop c).length ≤ cap
      rw [hzl]; omega
    · have h61 := h6.1
      exact ⟨show (xs.take a ++ xs.drop c).length ≤ 140737488355328 by rw [hzl]; omega, h6.2⟩
    · rw [c2]; exact h7
    · show repL _ (xs.take a ++ xs.drop c) ((cur'.toList.drop off).take ((xs.take a ++ xs.drop c).length * 1))
      rw [hcells]
      refine repL_of_ints fun y hy => hin y ?_
      rcases List.mem_append.1 hy with hy | hy
      · exact List.mem_of_mem_take hy
      · exact List.mem_of_mem_drop hy
    · refine ⟨rfl, rfl, rfl, ?_, fun i hi hne => ?_⟩
      · rw [Sort.size_putRow]; exact Nat.le_refl _
      · have hne : b ≠ i := fun h => hne off (by rw [h])
        unfold Sort.putRow Sort.mapBlock
        show (Array.modify w.heap b _)[i]? = _
        rw [Array.getElem?_modify, if_neg hne]
abbrev cBackI1 : Con := { A := (.cons (.ref (.sl .int)) .nil), R := .seq false (.cons .int (.cons .int .nil)), pre := fun _ => True, F := fun x => ((True, bkI x.1 (x.1).length) : Prop × List Rtl) }
def cBackI1_0 (Λ1 : Int → Nat → Prop) (c0 : (List Int)) (y0 : List Rtl) : Prop :=
  inI ((List.length c0 : Int) - (1 : Int)) ∧ Λ1 ((List.length c0 : Int) - (1 : Int)) 0
def cBackI1_1 (Λ1 : Int → Nat → Prop) (c0 : (List Int)) (y0 : List Rtl)  (i_1 : Int) (k_1 : Nat) : Prop :=
  if (decide (i_1 ≥ (0 : Int))) = true then (idx i_1 (List.length c0 : Int) ∧ (y0[k_1]? = some (i_1, (List.getD c0 (Int.toNat i_1) 0), ()) ∧ (inI (i_1 - (1 : Int)) ∧ Λ1 (i_1 - (1 : Int)) (k_1 + 1)) ∧ True)) else k_1 = List.length y0
theorem cBackI1_law (h : ∀ (c0 : (List Int)), cBackI1.A.wf (c0, ()) → ((True, bkI c0 (c0).length)).1 → ∀ (Λ1 : Int → Nat → Prop), (∀ (i_1 : Int) (k_1 : Nat), cBackI1_1 Λ1 c0 ((True, bkI c0 (c0).length)).2 i_1 k_1 → Λ1 i_1 k_1) → cBackI1_0 Λ1 c0 ((True, bkI c0 (c0).length)).2) : ConOK Go.Proofs.Try.prog 114 cBackI1 := by
  refine lawIt (X := { subs := [], frz := [], U := [], mul := [], nst := [], nls := [], itf := some false, inp := [], arrs := [] }) (hX := xok0 _ trivial) (Γ := []) (Θ := Th) (n := 19) [([1, 0], ⟨[(0, true), (1, false), (3, true)], [(5000000, true)]⟩)] trivial (by kernel_rfl) th_ok mix_ok Go.Proofs.Try.func114 (by kernel_rfl) ?_
  intro x hw hp Λ hC
  have h0 := h x.1 hw hp (fun i_1 k_1 => Λ [1, 0] ([(0, .yld), (1, .d false (.ref (.sl .int)) x.1), (3, .d true .int i_1)], [(5000000, .it (.cons .int (.cons .int .nil)) (cBackI1.F x).2 k_1)])) (fun i_1 k_1 hb => hC [1, 0] ([(0, .yld), (1, .d false (.ref (.sl .int)) x.1), (3, .d true .int i_1)], [(5000000, .it (.cons .int (.cons .int .nil)) (cBackI1.F x).2 k_1)]) (Eq.mpr (by kernel_rfl) hb))
  exact Eq.mpr (by kernel_rfl) h0
theorem cBackI1_ok : ConOK Go.Proofs.Try.prog 114 cBackI1 := by
  refine cBackI1_law ?_
  intro c0 hw hp Λ1 h1
  unfold cBackI1_0
  have hlc : c0.length ≤ 140737488355328 := hw.1.1
  refine ⟨by unfold inI; omega, ?_⟩
  have key := upto (n := c0.length) (Q := fun k => Λ1 ((c0.length : Int) - 1 - k) k) ?_ ?_ 0 (Nat.zero_le _)
  · simpa using key
  · apply h1; unfold cBackI1_1
    rw [if_neg (by rw [decide_eq_true_eq]; omega), bkI_len]
  · intro k hk ih
    apply h1; unfold cBackI1_1
    rw [if_pos (by rw [decide_eq_true_eq]; omega), bkI_get c0 _ k hk]
    have e : ((c0.length : Int) - 1 - k).toNat = c0.length - 1 - k := by omega
    rw [e]
    refine ⟨⟨by omega, by omega⟩, ?_, ⟨by unfold inI; omega, ?_⟩, trivial⟩
    · congr 2; omega
    · rw [show ((c0.length : Int) - 1 - k - 1) = (c0.length : Int) - 1 - ((k + 1 : Nat) : Int) by omega]; exact ih
abbrev cBackI : Con := { A := (.cons (.sl .int) .nil), R := (.cons (.seq false (.cons .int (.cons .int .nil))) .nil), pre := fun x => True, F := fun x => ((True, bkI x.1 (x.1).length), ()), al := true }
def cBackI_0  (s : (List Int)) (y0 : (Prop × List Rtl)) : Prop :=
  ((True, bkI s (s).length)) = y0 ∧ True
theorem cBackI_law (h : ∀ (s : (List Int)), cBackI.A.wf (s, ()) → cBackI_0  s (True, bkI s (s).length)) : ConOK Go.Proofs.Try.prog 95 cBackI := by
  refine lawX (X := { subs := [], frz := [1], U := [], mul := [], nst := [], nls := [], itf := none, inp := [], arrs := [] }) (hX := xok0 _ trivial) (Γ := [(114, cBackI1)]) (Θ := Th) (n := 4) [] ⟨cBackI1_ok, trivial⟩ (by kernel_rfl) th_ok mix_ok Go.Proofs.Try.func95 (by kernel_rfl) ?_
  intro x hw hp Λ hC
  have h0 := h x.1 hw  
  exact Eq.mpr (by kernel_rfl) h0
theorem cBackI_ok : ConOK Go.Proofs.Try.prog 95 cBackI := by
  refine cBackI_law ?_
  intro s hw
  unfold cBackI_0
  exact ⟨rfl, trivial⟩
abbrev cLeast : Con := { A := (.cons (.sl (.sl .int)) (.cons (.sl .int) .nil)), R := (.cons (.sl .int) (.cons .int .nil)), pre := fun x => x.2.1.length ≤ 1000000, F := fun x => ((if rowsT x.1 x.2.1 = 0 then leastT x.1 x.2.1 else []), rowsT x.1 x.2.1, ()) }
def cLeast_0 (Λ1 : (List Int) → Nat → Prop) (t : (List (List Int))) (set_ : (List Int)) (y0 : (List Int)) (y1 : Int) : Prop :=
  True ∧ (if ((rowsT t set_) != (0 : Int)) = true then (([] : List Int) = y0 ∧ (rowsT t set_) = y1 ∧ True) else (set_.length ≤ 1000000 ∧ (True ∧ (((True, bkI set_ (set_).length)).1 ∧ Λ1 set_ 0))))
def cLeast_1 (Λ1 : (List Int) → Nat → Prop) (t : (List (List Int))) (set_ : (List Int)) (y0 : (List Int)) (y1 : Int)  (out_1 : (List Int)) (k_1 : Nat) : Prop :=
  (∀ e1 : Rtl, (((True, bkI set_ (set_).length)).2)[k_1]? = some e1 → (out_1.length ≤ 1000000 ∧ (inI (e1.1 + (1 : Int)) ∧ ((0 ≤ e1.1 ∧ e1.1 < (e1.1 + (1 : Int)) ∧ (e1.1 + (1 : Int)) ≤ out_1.length) ∧ ((okT t ∧ inT t (out_1.take e1.1.toNat ++ out_1.drop (e1.1 + (1 : Int)).toNat)) ∧ ((okT t ∧ inT t set_) ∧ (if ((List.length (metL t (out_1.take e1.1.toNat ++ out_1.drop (e1.1 + (1 : Int)).toNat)) : Int) == (List.length (metL t set_) : Int)) = true then Λ1 (out_1.take e1.1.toNat ++ out_1.drop (e1.1 + (1 : Int)).toNat) (k_1 + 1) else Λ1 out_1 (k_1 + 1)))))))) ∧ (List.length (((True, bkI set_ (set_).length)).2) ≤ k_1 → (out_1 = y0 ∧ (0 : Int) = y1 ∧ True))
theorem cLeast_law (h : ∀ (t : (List (List Int))) (set_ : (List Int)), cLeast.A.wf (t, set_, ()) → (set_.length ≤ 1000000) → ∀ (Λ1 : (List Int) → Nat → Prop), (∀ (out_1 : (List Int)) (k_1 : Nat), cLeast_1 Λ1 t set_ (if rowsT t set_ = 0 then leastT t set_ else []) (rowsT t set_) out_1 k_1 → Λ1 out_1 k_1) → cLeast_0 Λ1 t set_ (if rowsT t set_ = 0 then leastT t set_ else []) (rowsT t set_)) : ConOK Go.Proofs.Try.prog 48 cLeast := by
  refine lawX (X := { subs := [], frz := [], U := [], mul := [], nst := [], nls := [], itf := none, inp := [(86, cDelI)], arrs := [] }) (hX := xok0 _ ⟨cDelI_ok, trivial⟩) (Γ := [(95, cBackI), (91, cCloneI), (81, cMet8), (78, cRows8)]) (Θ := Th) (n := 39) [([1, 1, 1, 0, 1, 0], ⟨[(2, true), (3, true), (4, true), (5, true), (7, true)], [(2, false), (3, false), (4, true), (7, true), (4000000, true)]⟩)] ⟨cBackI_ok, cCloneI_ok, cMet8_ok, cRows8_ok, trivial⟩ (by kernel_rfl) th_ok mix_ok Go.Proofs.Try.func48 (by kernel_rfl) ?_
  intro x hw hp Λ hC
  have h0 := h x.1 x.2.1 hw hp (fun out_1 k_1 => Λ [1, 1, 1, 0, 1, 0] ([(2, .ptr 2 0 []), (3, .ptr 3 0 []), (4, .own 4 0), (5, .d true .int 0), (7, .ptr 7 0 [])], [(2, .box false (.sl (.sl .int)) x.1), (3, .box false (.sl .int) x.2.1), (4, .sl true .int ([] : List Int)), (7, .box true (.sl .int) out_1), (4000000, .rg false (.cons .int (.cons .int .nil)) (((True, bkI x.2.1 (x.2.1).length)).2) k_1)])) (fun out_1 k_1 hb => hC [1, 1, 1, 0, 1, 0] ([(2, .ptr 2 0 []), (3, .ptr 3 0 []), (4, .own 4 0), (5, .d true .int 0), (7, .ptr 7 0 [])], [(2, .box false (.sl (.sl .int)) x.1), (3, .box false (.sl .int) x.2.1), (4, .sl true .int ([] : List Int)), (7, .box true (.sl .int) out_1), (4000000, .rg false (.cons .int (.cons .int .nil)) (((True, bkI x.2.1 (x.2.1).length)).2) k_1)]) (Eq.mpr (by kernel_rfl) hb))
  exact Eq.mpr (by kernel_rfl) h0
theorem cLeast_ok : ConOK Go.Proofs.Try.prog 48 cLeast := by
  refine cLeast_law ?_
  intro t set_ hw hp Λ1 h1
  unfold cLeast_0
  refine ⟨trivial, ?_⟩
  by_cases h : rowsT t set_ = 0
  · rw [if_neg (by simp [h])]
    rw [if_pos h, h] at h1
    obtain ⟨g1, g2, g3⟩ := rowsT_ok h
    refine ⟨hp, trivial, trivial, ?_⟩
    have key : ∀ k, k ≤ set_.length → ∀ out : List Int, set_.length - k ≤ out.length → out.length ≤ set_.length → (∀ r ∈ out, r ∈ set_) → leastF t (metL t set_).length (set_.length - k) out = leastT t set_ → Λ1 out k := by
      refine upto ?_ ?_
      · intro out _ _ _ hout
        rw [Nat.sub_self] at hout
        apply h1; unfold cLeast_1
        refine ⟨fun e he => ?_, fun _ => ⟨hout, rfl, trivial⟩⟩
        rw [List.getElem?_eq_none (by rw [bkI_len]; exact Nat.le_refl _)] at he
        cases he
      · intro k hk ih out ho ho2 hs hout
        apply h1; unfold cLeast_1
        refine ⟨fun e he => ?_, fun h => absurd h (by rw [bkI_len]; omega)⟩
        rw [bkI_get set_ _ k hk] at he
        cases he
        have en : set_.length - k = (set_.length - 1 - k) + 1 := by omega
        have en2 : set_.length - (k + 1) = set_.length - 1 - k := by omega
        rw [en] at hout
        rw [en2] at ih
        obtain ⟨n, hn⟩ : ∃ n, n = set_.length - 1 - k := ⟨_, rfl⟩
        rw [← hn] at hout ih ⊢
        have e1 : (n : Int).toNat = n := Int.toNat_natCast n
        have e2 : ((n : Int) + 1).toNat = n + 1 := by omega
        have hlt : n < out.length := by omega
        dsimp only
        rw [e1, e2]
        have hcs : ∀ r ∈ cutAt out n, r ∈ set_ := fun r hr => hs r ((cutAt_sub _ _).mem hr)
        refine ⟨by omega, by unfold inI; omega, ⟨by omega, by omega, by omega⟩, ⟨g1, fun r hr => g2 r (hcs r hr)⟩, ⟨g1, g2⟩, ?_⟩
        change leastF t (metL t set_).length n (stepL t (metL t set_).length out n) = leastT t set_ at hout
        by_cases hc : (metL t (cutAt out n)).length = (metL t set_).length
        · rw [if_pos (by unfold cutAt at hc; simp [hc])]
          have es : stepL t (metL t set_).length out n = cutAt out n := by unfold stepL; rw [if_pos hc]
          rw [es] at hout
          exact ih (cutAt out n) (by rw [cutAt_len hlt]; omega) (by rw [cutAt_len hlt]; omega) hcs hout
        · rw [if_neg (by unfold cutAt at hc; simp; omega)]
          have es : stepL t (metL t set_).length out n = out := by unfold stepL; rw [if_neg hc]
          rw [es] at hout
          exact ih out (by omega) ho2 hs hout
    exact key 0 (Nat.zero_le _) set_ (by omega) (Nat.le_refl _) (fun _ h => h) (by rw [Nat.sub_zero]; rfl)
  · rw [if_pos (by simp [h]), if_neg h]
    exact ⟨rfl, rfl, trivial⟩
abbrev cLeastR : Con := { A := (.cons (.sl (.sl .int)) (.cons (.sl .int) .nil)), R := (.cons (.sl .int) (.cons .int .nil)), pre := fun x => x.2.1.length ≤ 1000000, F := fun x => ((if rowsT x.1 x.2.1 = 0 then leastT x.1 x.2.1 else []), rowsT x.1 x.2.1, ()) }
def cLeastR_0 (Λ1 : (List Int) → Int → Prop) (t : (List (List Int))) (rows : (List Int)) (y0 : (List Int)) (y1 : Int) : Prop :=
  rows.length ≤ 1000000 ∧ (if ((rowsT t rows) != (0 : Int)) = true then (([] : List Int) = y0 ∧ (rowsT t rows) = y1 ∧ True) else ((okT t ∧ inT t rows ∧ rows.length ≤ 1000000) ∧ (List.length ([] : List Int) + List.length rows ≤ 4294967296 ∧ (inI ((List.length (([] : List Int) ++ rows) : Int) - (1 : Int)) ∧ Λ1 (([] : List Int) ++ rows) ((List.length (([] : List Int) ++ rows) : Int) - (1 : Int))))))
def cLeastR_1 (Λ1 : (List Int) → Int → Prop) (t : (List (List Int))) (rows : (List Int)) (y0 : (List Int)) (y1 : Int)  (out_1 : (List Int)) (i_1 : Int) : Prop :=
  if (decide (i_1 ≥ (0 : Int))) = true then ((0 ≤ (0 : Int) ∧ (0 : Int) ≤ i_1 ∧ i_1 ≤ (List.length out_1 : Int) ∧ (List.length out_1 : Int) ≤ (List.length out_1 : Int)) ∧ (List.length ([] : List Int) + List.length (List.drop (Int.toNat (0 : Int)) (List.take (Int.toNat i_1) out_1)) ≤ 4294967296 ∧ (inI (i_1 + (1 : Int)) ∧ ((0 ≤ (i_1 + (1 : Int)) ∧ (i_1 + (1 : Int)) ≤ (List.length out_1 : Int) ∧ (List.length out_1 : Int) ≤ (List.length out_1 : Int) ∧ (List.length out_1 : Int) ≤ (List.length out_1 : Int)) ∧ (List.length (([] : List Int) ++ (List.drop (Int.toNat (0 : Int)) (List.take (Int.toNat i_1) out_1))) + List.length (List.drop (Int.toNat (i_1 + (1 : Int))) (List.take (Int.toNat (List.length out_1 : Int)) out_1)) ≤ 4294967296 ∧ ((okT t ∧ inT t ((([] : List Int) ++ (List.drop (Int.toNat (0 : Int)) (List.take (Int.toNat i_1) out_1))) ++ (List.drop (Int.toNat (i_1 + (1 : Int))) (List.take (Int.toNat (List.length out_1 : Int)) out_1))) ∧ ((([] : List Int) ++ (List.drop (Int.toNat (0 : Int)) (List.take (Int.toNat i_1) out_1))) ++ (List.drop (Int.toNat (i_1 + (1 : Int))) (List.take (Int.toNat (List.length out_1 : Int)) out_1))).length ≤ 1000000) ∧ (if ((List.length (metL t ((([] : List Int) ++ (List.drop (Int.toNat (0 : Int)) (List.take (Int.toNat i_1) out_1))) ++ (List.drop (Int.toNat (i_1 + (1 : Int))) (List.take (Int.toNat (List.length out_1 : Int)) out_1)))) : Int) == (List.length (metL t rows) : Int)) = true then (inI (i_1 - (1 : Int)) ∧ Λ1 ((([] : List Int) ++ (List.drop (Int.toNat (0 : Int)) (List.take (Int.toNat i_1) out_1))) ++ (List.drop (Int.toNat (i_1 + (1 : Int))) (List.take (Int.toNat (List.length out_1 : Int)) out_1))) (i_1 - (1 : Int))) else (inI (i_1 - (1 : Int)) ∧ Λ1 out_1 (i_1 - (1 : Int)))))))))) else (out_1 = y0 ∧ (0 : Int) = y1 ∧ True)
theorem cLeastR_law (h : ∀ (t : (List (List Int))) (rows : (List Int)), cLeastR.A.wf (t, rows, ()) → (rows.length ≤ 1000000) → ∀ (Λ1 : (List Int) → Int → Prop), (∀ (out_1 : (List Int)) (i_1 : Int), cLeastR_1 Λ1 t rows (if rowsT t rows = 0 then leastT t rows else []) (rowsT t rows) out_1 i_1 → Λ1 out_1 i_1) → cLeastR_0 Λ1 t rows (if rowsT t rows = 0 then leastT t rows else []) (rowsT t rows)) : ConOK Go.Proofs.Try.prog 49 cLeastR := by
  refine lawL (Γ := [(71, cMet8r), (79, cRowed8)]) (Θ := Th) (n := 49) [([1, 1, 1, 1, 1, 0, 1, 0], ⟨[(0, false), (7, true), (8, true), (9, true)], []⟩)] ⟨cMet8r_ok, cRowed8_ok, trivial⟩ (by kernel_rfl) th_ok mix_ok Go.Proofs.Try.func49 (by kernel_rfl) ?_
  intro x hw hp Λ hC
  have h0 := h x.1 x.2.1 hw hp (fun out_1 i_1 => Λ [1, 1, 1, 1, 1, 0, 1, 0] ([(0, .d false (.sl (.sl .int)) x.1), (7, .d true .int (List.length (metL x.1 x.2.1) : Int)), (8, .d true (.sl .int) out_1), (9, .d true .int i_1)], [])) (fun out_1 i_1 hb => hC [1, 1, 1, 1, 1, 0, 1, 0] ([(0, .d false (.sl (.sl .int)) x.1), (7, .d true .int (List.length (metL x.1 x.2.1) : Int)), (8, .d true (.sl .int) out_1), (9, .d true .int i_1)], []) (Eq.mpr (by kernel_rfl) hb))
  exact Eq.mpr (by kernel_rfl) h0
theorem cLeastR_ok : ConOK Go.Proofs.Try.prog 49 cLeastR := by
  refine cLeastR_law ?_
  intro t rows hw hp Λ1 h1
  unfold cLeastR_0
  refine ⟨hp, ?_⟩
  by_cases h : rowsT t rows = 0
  · rw [if_neg (by simp [h])]
    rw [if_pos h, h] at h1
    obtain ⟨g1, g2, g3⟩ := rowsT_ok h
    refine ⟨⟨g1, g2, hp⟩, by simp; omega, by simp; unfold inI; omega, ?_⟩
    have key : ∀ k, k ≤ rows.length → ∀ out : List Int, rows.length - k ≤ out.length → out.length ≤ rows.length → (∀ r ∈ out, r ∈ rows) → leastF t (metL t rows).length (rows.length - k) out = leastT t rows → Λ1 out ((rows.length : Int) - 1 - k) := by
      refine upto ?_ ?_
      · intro out _ _ _ hout
        rw [Nat.sub_self] at hout
        apply h1; unfold cLeastR_1
        rw [if_neg (by rw [decide_eq_true_eq]; omega)]
        exact ⟨hout, rfl, trivial⟩
      · intro k hk ih out ho ho2 hs hout
        apply h1; unfold cLeastR_1
        rw [if_pos (by rw [decide_eq_true_eq]; omega)]
        have en : rows.length - k = (rows.length - 1 - k) + 1 := by omega
        have en2 : rows.length - (k + 1) = rows.length - 1 - k := by omega
        rw [en] at hout
        rw [en2] at ih
        obtain ⟨n, hn⟩ : ∃ n, n = rows.length - 1 - k := ⟨_, rfl⟩
        have hni : (rows.length : Int) - 1 - k = (n : Int) := by omega
        have hnj : (rows.length : Int) - 1 - ((k + 1 : Nat) : Int) = (n : Int) - 1 := by omega
        rw [← hn] at hout ih
        rw [hnj] at ih
        rw [hni]
        have e1 : (n : Int).toNat = n := Int.toNat_natCast n
        have e2 : ((n : Int) + 1).toNat = n + 1 := by omega
        have e3 : ((out.length : Nat) : Int).toNat = out.length := Int.toNat_natCast _
        have hlt : n < out.length := by omega
        rw [e1, e2, e3, List.take_length, show (Int.toNat 0) = 0 from rfl, List.drop_zero, List.nil_append]
        have hcs : ∀ r ∈ cutAt out n, r ∈ rows := fun r hr => hs r ((cutAt_sub _ _).mem hr)
        have hcl := cutAt_len hlt
        have hini : inI ((n : Int) - 1) := by unfold inI; omega
        refine ⟨⟨by omega, by omega, by omega, by omega⟩, by simp; omega, by unfold inI; omega, ⟨by omega, by omega, by omega, by omega⟩, by simp; omega, ⟨g1, fun r hr => g2 r (hcs r hr), by show (cutAt out n).length ≤ 1000000; omega⟩, ?_⟩
        change leastF t (metL t rows).length n (stepL t (metL t rows).length out n) = leastT t rows at hout
        by_cases hc : (metL t (cutAt out n)).length = (metL t rows).length
        · rw [if_pos (by unfold cutAt at hc; simp [hc])]
          have es : stepL t (metL t rows).length out n = cutAt out n := by unfold stepL; rw [if_pos hc]
          rw [es] at hout
          exact ⟨hini, ih (cutAt out n) (by omega) (by omega) hcs hout⟩
        · rw [if_neg (by unfold cutAt at hc; simp; omega)]
          have es : stepL t (metL t rows).length out n = out := by unfold stepL; rw [if_neg hc]
          rw [es] at hout
          exact ⟨hini, ih out (by omega) ho2 hs hout⟩
    have := key 0 (Nat.zero_le _) rows (by omega) (Nat.le_refl _) (fun _ h => h) (by rw [Nat.sub_zero]; rfl)
    simpa using this
  · rw [if_pos (by simp [h]), if_neg h]
    exact ⟨rfl, rfl, trivial⟩
abbrev cLeastsL : Con := { A := (.cons (.sl (.sl .int)) (.cons (.sl .int) .nil)), R := (.cons .bool .nil), pre := fun x => True, F := fun x => (true, ()) }
def cLeastsL_0  (t : (List (List Int))) (rows : (List Int)) (y0 : Bool) : Prop :=
  True ∧ (if (longT t) = true then (true = true ∧ (True ∧ (true = y0 ∧ True))) else (True ∧ (if (bif false then true else (decide ((List.length rows : Int) > (50 : Int)))) = true then (True ∧ (true = y0 ∧ True)) else (rows.length ≤ 1000000 ∧ (rows.length ≤ 1000000 ∧ (True ∧ (if (!(decide (((if rowsT t rows = 0 then leastT t rows else [])) = ((if rowsT t rows = 0 then leastT t rows else []))))) = true then (true = true ∧ (false = y0 ∧ True)) else (True ∧ (if (bif false then true else ((rowsT t rows) != (rowsT t rows))) = true then (false = y0 ∧ True) else (if ((rowsT t rows) != (0 : Int)) = true then (True ∧ (true = y0 ∧ True)) else (True ∧ (True ∧ (((if rowsT t rows = 0 then leastT t rows else [])).length ≤ 1000000 ∧ (if ((rowsT t rows) == (0 : Int)) = true then (True ∧ (if (bif true then ((rowsT t ((if rowsT t rows = 0 then leastT t rows else []))) == (0 : Int)) else false) = true then (True ∧ (True ∧ (if (bif true then (decide (((if rowsT t rows = 0 then metL t rows else [])) = ((if rowsT t ((if rowsT t rows = 0 then leastT t rows else [])) = 0 then metL t ((if rowsT t rows = 0 then leastT t rows else [])) else [])))) else false) = true then (True ∧ (if (bif true then ((rowsT t ((if rowsT t rows = 0 then leastT t rows else []))) == (0 : Int)) else false) = true then (True ∧ (True ∧ (if (bif true then (decide (((if rowsT t ((if rowsT t rows = 0 then leastT t rows else [])) = 0 then leastT t ((if rowsT t rows = 0 then leastT t rows else [])) else [])) = ((if rowsT t rows = 0 then leastT t rows else [])))) else false) = true then (True ∧ (True ∧ ((bif true then true else false) = y0 ∧ True))) else (false = false ∧ (false = y0 ∧ True))))) else (false = false ∧ (false = false ∧ (false = y0 ∧ True))))) else (false = false ∧ (false = false ∧ (false = false ∧ (false = y0 ∧ True))))))) else (false = false ∧ (false = false ∧ (false = false ∧ (false = false ∧ (false = y0 ∧ True))))))) else (false = false ∧ (false = false ∧ (false = false ∧ (false = false ∧ (false = false ∧ (false = y0 ∧ True))))))))))))))))))))
theorem cLeastsL_law (h : ∀ (t : (List (List Int))) (rows : (List Int)), cLeastsL.A.wf (t, rows, ()) → cLeastsL_0  t rows true) : ConOK Go.Proofs.Try.prog 13 cLeastsL := by
  refine lawL (Γ := [(48, cLeast), (49, cLeastR), (17, cLong8), (33, cMetS), (21, cSameI8), (18, cSane8)]) (Θ := Th) (n := 88) [] ⟨cLeast_ok, cLeastR_ok, cLong8_ok, cMetS_ok, cSameI8_ok, cSane8_ok, trivial⟩ (by kernel_rfl) th_ok mix_ok Go.Proofs.Try.func13 (by kernel_rfl) ?_
  intro x hw hp Λ hC
  have h0 := h x.1 x.2.1 hw  
  exact Eq.mpr (by kernel_rfl) h0
theorem cLeastsL_ok : ConOK Go.Proofs.Try.prog 13 cLeastsL := by
  refine cLeastsL_law ?_
  intro t rows hw
  unfold cLeastsL_0
  refine ⟨trivial, ?_⟩
  cases hL : longT t
  · rw [if_neg (by simp)]
    refine ⟨trivial, ?_⟩
    by_cases h50 : rows.length > 50
    · rw [if_pos (by simp; omega)]
      exact ⟨trivial, rfl, trivial⟩
    · rw [if_neg (by simp; omega)]
      have h6 : rows.length ≤ 1000000 := by omega
      refine ⟨h6, h6, trivial, ?_⟩
      rw [if_neg (by simp)]
      refine ⟨trivial, ?_⟩
      rw [if_neg (by simp)]
      by_cases h : rowsT t rows = 0
      · obtain ⟨g1, g2, g3⟩ := rowsT_ok h
        have hv := validT_ok.2 g1
        have ha := least_rows h hv g3
        have hm := least_met (t := t) (l := rows)
        have hag := least_again (t := t) (isSet8_pair.1 g3).1
        have hle : (leastT t rows).length ≤ 1000000 := by have := (least_sub (t := t) (l := rows)).length_le; omega
        simp [h, ha, hm, hag, hle]
      · rw [if_pos (by simp [h])]
        exact ⟨trivial, rfl, trivial⟩
  · rw [if_pos rfl]
    exact ⟨rfl, trivial, rfl, trivial⟩
end Go.Tk
/- Plain facts of layer 8: the smallest cover. No program in sight. -/
set_option linter.unusedSimpArgs false
set_option linter.unusedVariables false
set_option linter.unnecessarySimpa false
namespace Go.Tk
open Go Go.RowKit

def up (f n : Nat) (x : List Int) : Prop := x.Pairwise (· < ·) ∧ ∀ r ∈ x, (f : Int) ≤ r ∧ r < n
theorem up_cons {f n : Nat} {r : Int} {x : List Int} : up f n (r :: x) ↔ ((f : Int) ≤ r ∧ r < n) ∧ up (r.toNat + 1) n x := by
  unfold up
  rw [List.pairwise_cons]
  constructor
  · rintro ⟨⟨h1, h2⟩, h3⟩
    have h4 := h3 r (by simp)
    refine ⟨h4, h2, fun q hq => ⟨?_, (h3 q (by simp [hq])).2⟩⟩
    have := h1 q hq
    omega
  · rintro ⟨h1, h2, h3⟩
    refine ⟨⟨fun q hq => ?_, h2⟩, fun q hq => ?_⟩
    · have := (h3 q hq).1; omega
    · rcases List.mem_cons.1 hq with rfl | hq
      · exact h1
      · have := h3 q hq; omega
theorem up_len : ∀ {x : List Int} {f n : Nat}, up f n x → x = [] ∨ f + x.length ≤ n
  | [], _, _, _ => .inl rfl
  | r :: x, f, n, h => by
    obtain ⟨h1, h2⟩ := up_cons.1 h
    right
    rcases up_len h2 with rfl | h3
    · simp; omega
    · simp; omega
theorem up_set {t : Ste} {x : List Int} : up 0 t.length x ↔ isSet8 x t.length = true := by
  rw [isSet8_pair]
  unfold up
  simp

theorem srch_spec (t : Ste) : ∀ (m : Nat) (l : List Int) (f : Nat),
    (∀ y, srch t m l f = some y → ∃ x, y = (l ++ x, ()) ∧ up f t.length x ∧ x.length = m ∧ coverB t (l ++ x) = true ∧ ∀ z, up f t.length z → z.length = m → coverB t (l ++ z) = true → cmpL x z ≤ 0) ∧
    (srch t m l f = none → ∀ z, up f t.length z → z.length = m → coverB t (l ++ z) = false)
  | 0, l, f => by
    constructor
    · intro y h
      unfold srch at h
      split at h
      · rename_i hc
        cases h
        refine ⟨[], by simp, ⟨by simp, by simp⟩, rfl, by simpa using hc, fun z _ hz _ => ?_⟩
        have : z = [] := List.eq_nil_of_length_eq_zero hz
        subst this
        decide
      · cases h
    · intro h z _ hz
      unfold srch at h
      split at h
      · cases h
      · rename_i hc
        have : z = [] := List.eq_nil_of_length_eq_zero hz
        subst this
        simpa using hc
  | m + 1, l, f => by
    have head : ∀ z : List Int, up f t.length z → z.length = m + 1 → ∃ (q : Nat) (z' : List Int), z = (q : Int) :: z' ∧ f ≤ q ∧ q + (m + 1) ≤ t.length ∧ up (q + 1) t.length z' ∧ z'.length = m := by
      intro z hz hl
      cases z with
      | nil => simp at hl
      | cons r z' =>
        obtain ⟨h1, h2⟩ := up_cons.1 hz
        have hl2 : z'.length = m := by simpa using hl
        refine ⟨r.toNat, z', by congr 1; omega, by omega, ?_, h2, hl2⟩
        rcases up_len h2 with rfl | h3
        · simp at hl2; omega
        · omega
    constructor
    · intro y h
      unfold srch at h
      rw [List.findSome?_eq_some_iff] at h
      obtain ⟨l1, r, l2, e, hr, hl1⟩ := h
      have hlt : r < t.length := by
        have : r ∈ List.range t.length := by rw [e]; simp
        simpa using this
      have hbefore : ∀ q, q < r → q ∈ l1 := by
        intro q hq
        have h1 : l1 = (List.range t.length).take l1.length := by rw [e]; simp
        have h2 : l1.length = r := by
          have h3 : (List.range t.length)[l1.length]? = some r := by rw [e]; simp
          rw [List.getElem?_eq_some_iff] at h3
          obtain ⟨h4, h5⟩ := h3
          simpa using h5
        rw [h1, h2, List.take_range, List.mem_range]
        omega
      split at hr
      · rename_i hc
        obtain ⟨x, rfl, hx1, hx2, hx3, hx4⟩ := (srch_spec t m (l ++ [(r : Int)]) (r + 1)).1 y hr
        refine ⟨(r : Int) :: x, by simp, up_cons.2 ⟨⟨by omega, by omega⟩, by simpa using hx1⟩, by simp [hx2], by simpa using hx3, fun z hz hzl hzc => ?_⟩
        obtain ⟨q, z', rfl, q1, q2, q3, q4⟩ := head z hz hzl
        show (if (r : Int) = (q : Int) then cmpL x z' else cmpI r q) ≤ 0
        by_cases hrq : (r : Int) = (q : Int)
        · rw [if_pos hrq]
          obtain rfl : r = q := by omega
          exact hx4 z' q3 q4 (by simpa using hzc)
        · rw [if_neg hrq]
          by_cases hlt2 : q < r
          · have hn := hl1 q (hbefore q hlt2)
            rw [if_pos ⟨q1, q2⟩] at hn
            have := (srch_spec t m (l ++ [(q : Int)]) (q + 1)).2 hn z' q3 q4
            rw [List.append_assoc] at this
            simp only [List.singleton_append] at this
            rw [hzc] at this
            cases this
          · unfold cmpI
            rw [if_pos (by omega)]
            omega
      · cases hr
    · intro h z hz hzl
      unfold srch at h
      rw [List.findSome?_eq_none_iff] at h
      obtain ⟨q, z', rfl, q1, q2, q3, q4⟩ := head z hz hzl
      have hn := h q (by rw [List.mem_range]; omega)
      rw [if_pos ⟨q1, q2⟩] at hn
      have := (srch_spec t m (l ++ [(q : Int)]) (q + 1)).2 hn z' q3 q4
      rw [List.append_assoc] at this
      simpa using this

theorem all_cover (t : Ste) : coverB t (nums t.length) = true := by
  unfold coverB openL; simp
theorem nums_up (t : Ste) : up 0 t.length (nums t.length) := by
  rw [up_set, isSet8_pair]
  refine ⟨?_, fun r hr => nums_mem.1 hr⟩
  unfold nums
  rw [List.pairwise_map]
  exact List.pairwise_lt_range.imp fun h => by simpa using h

/-- The smallest cover: it is one, none is smaller, and of those as small it is the first. -/
theorem coverS_spec (t : Ste) : isSet8 (coverS t) t.length = true ∧ coverB t (coverS t) = true ∧ ∀ z, isSet8 z t.length = true → coverB t z = true → (coverS t).length < z.length ∨ ((coverS t).length = z.length ∧ cmpL (coverS t) z ≤ 0) := by
  unfold coverS
  cases hF : coverF t (t.length + 1) with
  | none =>
    unfold coverF at hF
    rw [List.findSome?_eq_none_iff] at hF
    have h1 := hF t.length (by simp)
    have := (srch_spec t t.length [] 0).2 h1 (nums t.length) (nums_up t) (nums_len _)
    rw [List.nil_append, all_cover] at this
    cases this
  | some y =>
    unfold coverF at hF
    rw [List.findSome?_eq_some_iff] at hF
    obtain ⟨l1, m, l2, e, hr, hl1⟩ := hF
    obtain ⟨x, rfl, h1, h2, h3, h4⟩ := (srch_spec t m [] 0).1 y hr
    simp only [List.nil_append] at h3 h4 ⊢
    refine ⟨up_set.1 h1, h3, fun z hz hzc => ?_⟩
    have hzu := up_set.2 hz
    have hzn : z.length ≤ t.length := by
      rcases up_len hzu with rfl | h
      · simp
      · omega
    by_cases hlt : z.length < m
    · have h5 : l1.length = m := by
        have h3 : (List.range (t.length + 1))[l1.length]? = some m := by rw [e]; simp
        rw [List.getElem?_eq_some_iff] at h3
        obtain ⟨h4, h5⟩ := h3
        simpa using h5
      have h6 : l1 = (List.range (t.length + 1)).take l1.length := by rw [e]; simp
      have hmem : z.length ∈ l1 := by
        have : m < t.length + 1 := by
          have : m ∈ List.range (t.length + 1) := by rw [e]; simp
          simpa using this
        rw [h6, h5, List.take_range, List.mem_range]
        omega
      have hn := hl1 _ hmem
      have := (srch_spec t z.length [] 0).2 hn z hzu rfl
      rw [List.nil_append, hzc] at this
      cases this
    · by_cases heq : m = z.length
      · right
        exact ⟨by rw [h2, heq], h4 z hzu heq.symm hzc⟩
      · left; omega

/-- An essential row is in every cover. -/
theorem ess_in {t : Ste} {l : List Int} {r : Int} (hl : inT t l) (hc : coverB t l = true) (hr : r ∈ essT t) : r ∈ l := by
  by_cases h : r ∈ l
  · exact h
  · exfalso
    obtain ⟨_, h1⟩ := List.mem_filter.1 hr
    have h2 : (metL t l).length ≤ (metL t (others t r)).length := met_mono fun q hq => List.mem_filter.2 ⟨nums_mem.2 (hl q hq), by
      have : q ≠ r := fun e => h (e ▸ hq)
      simp [this]⟩
    have h3 := met_le_open (t := t) (l := others t r) (nums_filter_in t _)
    unfold coverB at hc h1
    simp at hc h1
    omega

end Go.Tk
/- Plain facts of layer 8: the cheapest cover; goals that exclude each other are no more than a cover's rows. No program in sight. -/
set_option linter.unusedSimpArgs false
set_option linter.unusedVariables false
set_option linter.unnecessarySimpa false
namespace Go.Tk
open Go Go.RowKit

def costOf (c s : List Int) : Int := (s.map fun r => c.getD r.toNat 0).sum
def stepC (t : Ste) (c : List Int) (st : List Int × Int) (s : List Int) : List Int × Int := if coverB t s = true ∧ (st.2 < 0 ∨ costOf c s < st.2 ∨ (costOf c s = st.2 ∧ cmpL s st.1 < 0)) then (s, costOf c s) else st
def cheapK (t : Ste) (c : List Int) (k : Nat) : List Int × Int := ((setsL t.length).take k).foldl (stepC t c) ([], -1)
def cheapT (t : Ste) (c : List Int) : List Int × Int := (setsL t.length).foldl (stepC t c) ([], -1)

theorem up_sub : ∀ (n : Nat) (x : List Int), up 0 n x → x.Sublist (nums n)
  | 0, x, h => by
    have : x = [] := by
      cases x with
      | nil => rfl
      | cons r x => have := h.2 r (by simp); omega
    rw [this]; exact List.nil_sublist _
  | n + 1, x, h => by
    rw [nums_succ]
    by_cases hn : ∀ r ∈ x, r < (n : Int)
    · exact (up_sub n x ⟨h.1, fun r hr => ⟨(h.2 r hr).1, hn r hr⟩⟩).trans (List.sublist_append_left _ _)
    · rcases List.eq_nil_or_concat x with rfl | ⟨y, a, rfl⟩
      · exact List.nil_sublist _
      · rw [List.concat_eq_append] at h hn ⊢
        have hp := List.pairwise_append.1 h.1
        have ha := h.2 a (by simp)
        have hy : ∀ r ∈ y, r < a := fun r hr => hp.2.2 r hr a (by simp)
        have han : a = (n : Int) := by
          by_cases e : a = (n : Int)
          · exact e
          · exfalso
            apply hn
            intro r hr
            rcases List.mem_append.1 hr with hr | hr
            · have := hy r hr; omega
            · rw [List.mem_singleton] at hr
              omega
        subst han
        exact (up_sub n y ⟨hp.1, fun r hr => ⟨(h.2 r (by simp [hr])).1, hy r hr⟩⟩).append (List.Sublist.refl _)
theorem up_sets {n : Nat} {x : List Int} : x ∈ setsL n ↔ up 0 n x := by
  unfold setsL
  rw [List.mem_map]
  constructor
  · rintro ⟨b, _, rfl⟩
    refine ⟨?_, fun r hr => ⟨by have := (setOf_mem hr).1; simpa using this, (setOf_mem hr).2⟩⟩
    refine List.Pairwise.sublist (setOf_sub n b) ?_
    unfold nums
    rw [List.pairwise_map]
    exact List.pairwise_lt_range.imp fun h => by simpa using h
  · intro h
    obtain ⟨b, hb, e⟩ := setOf_exists n x (up_sub n x h)
    exact ⟨b, List.mem_range.2 hb, e⟩

theorem costOf_nonneg {c s : List Int} (hc : ∀ x ∈ c, 0 ≤ x) : 0 ≤ costOf c s := by
  unfold costOf
  induction s with
  | nil => simp
  | cons r s ih =>
    have : 0 ≤ c.getD r.toNat 0 := by
      by_cases h : r.toNat < c.length
      · exact hc _ (mem_getD h)
      · rw [List.getD_eq_getElem?_getD, List.getElem?_eq_none (by omega)]; simp
    simp only [List.map_cons, List.sum_cons]
    omega
theorem stepC_spec {t : Ste} {c : List Int} (hc : ∀ x ∈ c, 0 ≤ x) : ∀ (l done : List (List Int)) (st : List Int × Int),
    ((st = ([], -1) ∧ ∀ s ∈ done, coverB t s = false) ∨ (st.1 ∈ done ∧ coverB t st.1 = true ∧ st.2 = costOf c st.1 ∧ ∀ s ∈ done, coverB t s = true → st.2 < costOf c s ∨ (st.2 = costOf c s ∧ cmpL st.1 s ≤ 0))) →
    (((l.foldl (stepC t c) st) = ([], -1) ∧ ∀ s ∈ done ++ l, coverB t s = false) ∨ ((l.foldl (stepC t c) st).1 ∈ done ++ l ∧ coverB t (l.foldl (stepC t c) st).1 = true ∧ (l.foldl (stepC t c) st).2 = costOf c (l.foldl (stepC t c) st).1 ∧ ∀ s ∈ done ++ l, coverB t s = true → (l.foldl (stepC t c) st).2 < costOf c s ∨ ((l.foldl (stepC t c) st).2 = costOf c s ∧ cmpL (l.foldl (stepC t c) st).1 s ≤ 0)))
  | [], done, st, h => by simpa using h
  | s :: l, done, st, h => by
    rw [show done ++ s :: l = (done ++ [s]) ++ l by simp]
    refine stepC_spec hc l (done ++ [s]) (stepC t c st s) ?_
    unfold stepC
    split
    · rename_i hs
      right
      refine ⟨by simp, hs.1, rfl, fun z hz hzc => ?_⟩
      rcases List.mem_append.1 hz with hz | hz
      · rcases h with ⟨_, h⟩ | ⟨_, _, h2, h⟩
        · rw [h z hz] at hzc; cases hzc
        · have hn : 0 ≤ st.2 := by rw [h2]; exact costOf_nonneg hc
          rcases h z hz hzc with q | ⟨q, q'⟩
          · rcases hs.2 with p | p | ⟨p, _⟩
            · omega
            · left; show costOf c s < _; omega
            · left; show costOf c s < _; omega
          · rcases hs.2 with p | p | ⟨p, p'⟩
            · omega
            · left; show costOf c s < _; omega
            · right
              refine ⟨by show costOf c s = _; omega, ?_⟩
              show cmpL s z ≤ 0
              by_cases e : cmpL st.1 z = 0
              · rw [← cmpL_zero e]; omega
              · exact Int.le_of_lt (cmpL_trans p' (by omega))
      · rw [List.mem_singleton] at hz
        subst hz
        right
        exact ⟨rfl, by rw [cmpL_refl]; omega⟩
    · rename_i hs
      rcases h with ⟨rfl, h⟩ | ⟨h0, h1, h2, h⟩
      · left
        refine ⟨rfl, fun z hz => ?_⟩
        rcases List.mem_append.1 hz with hz | hz
        · exact h z hz
        · rw [List.mem_singleton] at hz
          subst hz
          rw [Bool.eq_false_iff]
          intro hzc
          exact hs ⟨hzc, .inl (by decide)⟩
      · right
        refine ⟨by simp [h0], h1, h2, fun z hz hzc => ?_⟩
        rcases List.mem_append.1 hz with hz | hz
        · exact h z hz hzc
        · rw [List.mem_singleton] at hz
          subst hz
          have hn : ¬ (st.2 < 0 ∨ costOf c z < st.2 ∨ (costOf c z = st.2 ∧ cmpL z st.1 < 0)) := fun q => hs ⟨hzc, q⟩
          by_cases e : st.2 = costOf c z
          · right
            refine ⟨e, ?_⟩
            have : ¬ cmpL z st.1 < 0 := fun q => hn (.inr (.inr ⟨e.symm, q⟩))
            rw [cmpL_flip] at this
            omega
          · left
            have : ¬ costOf c z < st.2 := fun q => hn (.inr (.inl q))
            omega
/-- The cheapest cover: it is one, none is cheaper, and of those as cheap it is the first. -/
theorem cheapT_spec {t : Ste} {c : List Int} (hc : ∀ x ∈ c, 0 ≤ x) : up 0 t.length (cheapT t c).1 ∧ coverB t (cheapT t c).1 = true ∧ (cheapT t c).2 = costOf c (cheapT t c).1 ∧ ∀ z, up 0 t.length z → coverB t z = true → (cheapT t c).2 < costOf c z ∨ ((cheapT t c).2 = costOf c z ∧ cmpL (cheapT t c).1 z ≤ 0) := by
  have h := stepC_spec (t := t) hc (setsL t.length) [] ([], -1) (.inl ⟨rfl, by simp⟩)
  rw [List.nil_append] at h
  rcases h with ⟨_, h⟩ | ⟨h0, h1, h2, h⟩
  · have := h (nums t.length) (up_sets.2 (nums_up t))
    rw [all_cover] at this; cases this
  · exact ⟨up_sets.1 h0, h1, h2, fun z hz hzc => h z (up_sets.2 hz) hzc⟩
theorem costOf_ones {n : Nat} {s : List Int} (h : ∀ r ∈ s, 0 ≤ r ∧ r < n) : costOf (List.replicate n 1) s = s.length := by
  unfold costOf
  induction s with
  | nil => rfl
  | cons r s ih =>
    have hr := h r (by simp)
    have e : (List.replicate n (1 : Int)).getD r.toNat 0 = 1 := by
      rw [List.getD_eq_getElem?_getD, List.getElem?_replicate, if_pos (by omega)]; rfl
    simp only [List.map_cons, List.sum_cons, List.length_cons, e, ih fun q hq => h q (by simp [hq])]
    omega
theorem up_in {t : Ste} {x : List Int} (h : up 0 t.length x) : inT t x := fun r hr => ⟨by have := (h.2 r hr).1; simpa using this, (h.2 r hr).2⟩
/-- With all costs 1 the cheapest cover is the smallest one. -/
theorem cheap_ones (t : Ste) : cheapT t (List.replicate t.length 1) = (coverS t, ((coverS t).length : Int)) := by
  have hc : ∀ x ∈ List.replicate t.length (1 : Int), 0 ≤ x := fun x hx => by rw [List.eq_of_mem_replicate hx]; omega
  obtain ⟨a1, a2, a3, a4⟩ := cheapT_spec (t := t) hc
  obtain ⟨b1, b2, b3⟩ := coverS_spec t
  have b1' := up_set.2 b1
  have e1 := costOf_ones (n := t.length) (s := (cheapT t (List.replicate t.length 1)).1) fun r hr => by have := up_in a1 r hr; exact ⟨this.1, this.2⟩
  have e2 := costOf_ones (n := t.length) (s := coverS t) fun r hr => by have := up_in b1' r hr; exact ⟨this.1, this.2⟩
  have h1 := a4 _ b1' b2
  have h2 := b3 _ (up_set.1 a1) a2
  have heq : (cheapT t (List.replicate t.length 1)).1 = coverS t := by
    refine cmpL_zero ?_
    have hf := cmpL_flip (cheapT t (List.replicate t.length 1)).1 (coverS t)
    rw [a3, e1, e2] at h1
    rcases h1 with h1 | ⟨h1, h1'⟩ <;> rcases h2 with h2 | ⟨h2, h2'⟩ <;> omega
  refine Prod.ext heq ?_
  show (cheapT t (List.replicate t.length 1)).2 = _
  rw [a3, e1, heq]

/-! ### Goals that exclude each other -/
theorem count_le {α β : Type} (hit : α → β → Bool) : ∀ (a : List α) (c : List β), (∀ g ∈ c, ∃ r ∈ a, hit r g = true) → (∀ r ∈ a, (c.filter (hit r)).length ≤ 1) → c.length ≤ a.length
  | [], c, h, _ => by
    cases c with
    | nil => simp
    | cons g c => obtain ⟨r, hr, _⟩ := h g (by simp); simp at hr
  | r :: a, c, h, h1 => by
    have hle := count_le hit a (c.filter fun g => !hit r g) (fun g hg => by
      obtain ⟨hg1, hg2⟩ := List.mem_filter.1 hg
      obtain ⟨q, hq, e⟩ := h g hg1
      rcases List.mem_cons.1 hq with rfl | hq
      · rw [e] at hg2; cases hg2
      · exact ⟨q, hq, e⟩) (fun q hq => by
      have := h1 q (by simp [hq])
      refine Nat.le_trans ?_ this
      rw [List.filter_filter]
      exact filt_le fun x _ hx => by
        rw [Bool.and_eq_true] at hx
        exact hx.1)
    have hr := h1 r (by simp)
    have hsplit : c.length = (c.filter (hit r)).length + (c.filter fun g => !hit r g).length := by
      clear hle hr h h1
      induction c with
      | nil => rfl
      | cons g c ih => cases hg : hit r g <;> simp [List.filter_cons, hg] <;> omega
    simp only [List.length_cons]
    omega
theorem sumG_count {r c : List Int} (h : ∀ g ∈ c, r.getD g.toNat 0 = 0 ∨ r.getD g.toNat 0 = 1) : sumG r c = ((c.filter fun g => r.getD g.toNat 0 == 1).length : Int) := by
  unfold sumG
  induction c with
  | nil => rfl
  | cons g c ih =>
    have hg := h g (by simp)
    rw [List.map_cons, List.sum_cons, ih fun q hq => h q (by simp [hq]), List.filter_cons]
    rcases hg with e | e <;> rw [e] <;> simp <;> omega
theorem excl_good (t : Ste) : (∀ g ∈ exclT t, g ∈ openL t) ∧ exclB t (exclT t) = true := by
  rw [← excl_same]
  obtain ⟨h, _⟩ := stepB_spec (goodR t) (setsL (goals8 t)) [] [] (.inl rfl) (fun x hx => by simp at hx)
  rcases h with h | ⟨_, h⟩
  · rw [h]
    refine ⟨by simp, ?_⟩
    unfold exclB sumG
    simp
  · unfold goodR at h
    rw [Bool.and_eq_true, List.all_eq_true] at h
    exact ⟨fun g hg => by simpa using h.1 g hg, h.2⟩
theorem excl_le_cover {t : Ste} (ht : okT t) {a : List Int} (ha : inT t a) (hc : coverB t a = true) : (exclT t).length ≤ a.length := by
  obtain ⟨h1, h2⟩ := excl_good t
  have hm : metL t a = openL t := met_eq (fun r hr => nums_mem.2 (ha r hr)) (by unfold coverB at hc; exact of_decide_eq_true hc)
  refine count_le (fun r g => hits t r g.toNat) a (exclT t) (fun g hg => ?_) fun r hr => ?_
  · have := h1 g hg
    rw [← hm] at this
    unfold metL at this
    obtain ⟨k, hk, e⟩ := List.mem_map.1 this
    obtain ⟨_, hk2⟩ := List.mem_filter.1 hk
    obtain ⟨r, hr, hh⟩ := List.any_eq_true.1 hk2
    refine ⟨r, hr, ?_⟩
    rw [← e]
    exact hh
  · have hr2 := ha r hr
    have hrow : t.getD r.toNat [] ∈ t := mem_getD (by omega)
    have hrl := okT_row ht (i := r.toNat) (by omega)
    unfold exclB at h2
    rw [Bool.not_eq_true', List.any_eq_false] at h2
    have h3 := h2 _ hrow
    rw [sumG_count fun g hg => by
      have := openL_in t g (h1 g hg)
      exact (ht.2.2 _ hrow).2 _ (mem_getD (by omega))] at h3
    have h4 : ((exclT t).filter fun g => (t.getD r.toNat []).getD g.toNat 0 == 1).length ≤ 1 := by
      simp only [decide_eq_true_eq] at h3
      omega
    exact h4

/-! ### The same search with another start -/
def stepS (t : Ste) (c : List Int) (st : List Int × Int) (s : List Int) : List Int × Int := if (costOf c s < st.2 ∨ (costOf c s = st.2 ∧ cmpL s st.1 < 0)) ∧ coverB t s = true then (s, costOf c s) else st
theorem step_same {t : Ste} {c : List Int} (hc : ∀ x ∈ c, 0 ≤ x) {M : Int} {a : List Int} : ∀ (l : List (List Int)) (x y : List Int × Int), (∀ s ∈ l, costOf c s < M) → ((x = ([], -1) ∧ y = (a, M)) ∨ (x = y ∧ 0 ≤ x.2)) →
    ((l.foldl (stepC t c) x = ([], -1) ∧ l.foldl (stepS t c) y = (a, M)) ∨ (l.foldl (stepC t c) x = l.foldl (stepS t c) y ∧ 0 ≤ (l.foldl (stepC t c) x).2))
  | [], _, _, _, h => h
  | s :: l, x, y, hM, h => by
    refine step_same hc l (stepC t c x s) (stepS t c y s) (fun z hz => hM z (by simp [hz])) ?_
    have hn := costOf_nonneg (c := c) (s := s) hc
    have hs := hM s (by simp)
    unfold stepC stepS
    rcases h with ⟨rfl, rfl⟩ | ⟨rfl, h⟩
    · by_cases hcv : coverB t s = true
      · rw [if_pos ⟨hcv, .inl (by decide)⟩, if_pos ⟨.inl hs, hcv⟩]
        exact .inr ⟨rfl, hn⟩
      · rw [if_neg (fun q => hcv q.1), if_neg (fun q => hcv q.2)]
        exact .inl ⟨rfl, rfl⟩
    · right
      by_cases hcv : coverB t s = true
      · by_cases hq : costOf c s < x.2 ∨ (costOf c s = x.2 ∧ cmpL s x.1 < 0)
        · rw [if_pos ⟨hcv, .inr hq⟩, if_pos ⟨hq, hcv⟩]
          exact ⟨rfl, hn⟩
        · rw [if_neg (fun q => q.2.elim (fun z => by omega) hq), if_neg (fun q => hq q.1)]
          exact ⟨rfl, h⟩
      · rw [if_neg (fun q => hcv q.1), if_neg (fun q => hcv q.2)]
        exact ⟨rfl, h⟩
theorem costOf_lt {t : Ste} {c s : List Int} (hl : c.length = t.length) (hc : ∀ x ∈ c, 1 ≤ x ∧ x ≤ 99) (hs : up 0 t.length s) : costOf c s < 99 * (t.length : Int) + 1 := by
  have h1 := sum_bound (l := s) (f := fun r => c.getD r.toNat 0) (a := 0) (b := 99) fun r hr => by
    have := up_in hs r hr
    have := hc _ (mem_getD (d := 0) (l := c) (i := r.toNat) (by omega))
    omega
  have h2 : s.length ≤ t.length := by rcases up_len hs with rfl | h <;> (try simp) ; omega
  have h3 : costOf c s ≤ 99 * s.length := h1.2
  omega
theorem cheap_same {t : Ste} {c : List Int} (hl : c.length = t.length) (hc : ∀ x ∈ c, 1 ≤ x ∧ x ≤ 99) (a : List Int) : (setsL t.length).foldl (stepS t c) (a, 99 * (t.length : Int) + 1) = cheapT t c := by
  have hc0 : ∀ x ∈ c, 0 ≤ x := fun x hx => by have := hc x hx; omega
  have h := step_same (t := t) hc0 (M := 99 * (t.length : Int) + 1) (a := a) (setsL t.length) ([], -1) (a, 99 * (t.length : Int) + 1) (fun s hs => costOf_lt hl hc (up_sets.1 hs)) (.inl ⟨rfl, rfl⟩)
  rcases h with ⟨h, _⟩ | ⟨h, _⟩
  · obtain ⟨_, _, h3, _⟩ := cheapT_spec (t := t) hc0
    have h0 := costOf_nonneg (c := c) (s := (cheapT t c).1) hc0
    have : cheapT t c = ([], -1) := h
    rw [this] at h3 h0
    have h4 : (-1 : Int) = costOf c [] := h3
    have h5 : 0 ≤ costOf c [] := h0
    omega
  · exact h.symm

theorem stepC_len {t : Ste} {c : List Int} : ∀ (l : List (List Int)) (st : List Int × Int) (N : Nat), (∀ s ∈ l, s.length ≤ N) → st.1.length ≤ N → (l.foldl (stepC t c) st).1.length ≤ N
  | [], _, _, _, h => h
  | s :: l, st, N, hl, h => by
    refine stepC_len l (stepC t c st s) N (fun z hz => hl z (by simp [hz])) ?_
    unfold stepC
    split
    · exact hl s (by simp)
    · exact h
theorem setsL_lens (n : Nat) : ∀ s ∈ setsL n, s.length ≤ n := fun s hs => by
  unfold setsL at hs
  obtain ⟨b, _, rfl⟩ := List.mem_map.1 hs
  exact setOf_len n b
theorem cheapK_len (t : Ste) (c : List Int) (k : Nat) : (cheapK t c k).1.length ≤ t.length := by
  unfold cheapK
  exact stepC_len _ _ _ (fun s hs => setsL_lens _ s (List.mem_of_mem_take hs)) (by simp)
theorem cheapK_succ {t : Ste} {c : List Int} {k : Nat} (hk : k < 2 ^ t.length) : cheapK t c (k + 1) = stepC t c (cheapK t c k) (setOf t.length k) := by
  unfold cheapK
  rw [foldl_take [] (stepC t c) _ (by rw [setsL_len]; exact hk), setsL_get hk]
def cheapS (t : Ste) (c : List Int) (k : Nat) : List Int × Int := ((setsL t.length).take k).foldl (stepS t c) (nums t.length, 99 * (t.length : Int) + 1)
theorem cheapS_succ {t : Ste} {c : List Int} {k : Nat} (hk : k < 2 ^ t.length) : cheapS t c (k + 1) = stepS t c (cheapS t c k) (setOf t.length k) := by
  unfold cheapS
  rw [foldl_take [] (stepS t c) _ (by rw [setsL_len]; exact hk), setsL_get hk]

end Go.Tk
/- Plain facts of layer 8: without its needless rows. No program in sight. -/
set_option linter.unusedSimpArgs false
set_option linter.unusedVariables false
set_option linter.unnecessarySimpa false
namespace Go.Tk
open Go Go.RowKit

def keepT (t : Ste) : List Int := (nums t.length).filter fun r => !decide (r ∈ needT t)
def lessT (t : Ste) : Ste := (keepT t).map fun r => t.getD r.toNat []

theorem keep_mem {t : Ste} {r : Int} : r ∈ keepT t ↔ (0 ≤ r ∧ r < t.length) ∧ ¬ r ∈ needT t := by
  unfold keepT
  rw [List.mem_filter, nums_mem]
  simp
/-- What a row that another one beats is worth. -/
theorem beats_less {t : Ste} {a b : Int} (h : beatsB t a b = true) : (metL t [a]).length > (metL t [b]).length ∨ ((metL t [a]).length = (metL t [b]).length ∧ a < b) := by
  have hs := (beats_sub h).2
  have hle : (metL t [b]).length ≤ (metL t [a]).length := by
    rw [met1_length, met1_length]
    exact filt_le fun g hg hb => hs g (List.mem_range.1 hg) hb
  unfold beatsB at h
  simp only [Bool.and_eq_true, Bool.or_eq_true, decide_eq_true_eq] at h
  rcases h.2 with h | h
  · exact .inl h
  · omega
/-- Each row is within one that is kept. -/
theorem dominated {t : Ste} : ∀ (m : Nat) (r : Int), 0 ≤ r ∧ r < t.length → (goals8 t - (metL t [r]).length) * t.length + r.toNat < m → ∃ k ∈ keepT t, ∀ g, g < goals8 t → hits t r g = true → hits t k g = true
  | 0, _, _, h => by omega
  | m + 1, r, hr, h => by
    by_cases hk : r ∈ needT t
    · obtain ⟨_, h2⟩ := List.mem_filter.1 hk
      obtain ⟨k, hk2, hb⟩ := List.any_eq_true.1 h2
      have hkr := nums_mem.1 hk2
      have hlt := beats_less hb
      have hlk := metL_len t [k]
      have hlr := metL_len t [r]
      have hdec : (goals8 t - (metL t [k]).length) * t.length + k.toNat < m := by
        rcases hlt with q | ⟨q, q'⟩
        · have e : goals8 t - (metL t [r]).length = (goals8 t - (metL t [k]).length) + ((metL t [k]).length - (metL t [r]).length) := by omega
          rw [e, Nat.add_mul] at h
          have : 1 * t.length ≤ ((metL t [k]).length - (metL t [r]).length) * t.length := Nat.mul_le_mul_right _ (by omega)
          omega
        · rw [q]
          omega
      obtain ⟨q, hq, hqs⟩ := dominated m k hkr hdec
      exact ⟨q, hq, fun g hg hh => hqs g hg ((beats_sub hb).2 g hg hh)⟩
    · exact ⟨r, keep_mem.2 ⟨hr, hk⟩, fun g _ h => h⟩
theorem keep_any {t : Ste} {r : Int} (hr : 0 ≤ r ∧ r < t.length) : ∃ k ∈ keepT t, ∀ g, g < goals8 t → hits t r g = true → hits t k g = true := dominated _ r hr (Nat.lt_succ_self _)

theorem less_len (t : Ste) : (lessT t).length = (keepT t).length := by simp [lessT]
theorem less_get {t : Ste} {j : Nat} (hj : j < (keepT t).length) : (lessT t).getD j [] = t.getD ((keepT t).getD j 0).toNat [] := by
  unfold lessT
  simp [List.getD_eq_getElem?_getD, hj]
theorem less_hits {t : Ste} {j : Nat} (hj : j < (keepT t).length) (g : Nat) : hits (lessT t) (j : Int) g = hits t ((keepT t).getD j 0) g := by
  unfold hits
  rw [Int.toNat_natCast, less_get hj]
theorem less_ok {t : Ste} (h : okT t) : okT (lessT t) ∧ goals8 (lessT t) = goals8 t := by
  have hkl : (keepT t).length ≤ t.length := filt_nums_len _ _
  have hg : goals8 (lessT t) = goals8 t := by
    by_cases h0 : t.length = 0
    · have e : t = [] := List.eq_nil_of_length_eq_zero h0
      subst e
      have : lessT [] = [] := by
        have := less_len []
        exact List.eq_nil_of_length_eq_zero (by simp at hkl; rw [this, hkl]; rfl)
      rw [this]
    · obtain ⟨k, hk, _⟩ := keep_any (t := t) (r := 0) ⟨by omega, by omega⟩
      have hpos : 0 < (keepT t).length := List.length_pos_of_mem hk
      unfold goals8
      rw [less_get hpos]
      have hm := keep_mem.1 (mem_getD (d := 0) hpos)
      exact okT_row h (i := ((keepT t).getD 0 0).toNat) (by omega)
  refine ⟨⟨by rw [less_len]; have := h.1; omega, by rw [hg]; exact h.2.1, fun r hr => ?_⟩, hg⟩
  rw [hg]
  unfold lessT at hr
  obtain ⟨k, hk, rfl⟩ := List.mem_map.1 hr
  have hm := (keep_mem.1 hk).1
  exact h.2.2 _ (mem_getD (by omega))

theorem less_open {t : Ste} (h : okT t) : openL (lessT t) = openL t := by
  have hg := (less_ok h).2
  unfold openL metL
  rw [hg]
  congr 1
  refine filt_congr fun g hgr => ?_
  rw [List.mem_range] at hgr
  rw [Bool.eq_iff_iff, List.any_eq_true, List.any_eq_true]
  constructor
  · rintro ⟨j, hj, e⟩
    have hj2 := nums_mem.1 hj
    rw [less_len] at hj2
    have hjn : (j.toNat : Int) = j := by omega
    rw [← hjn, less_hits (by omega)] at e
    exact ⟨_, nums_mem.2 (keep_mem.1 (mem_getD (by omega))).1, e⟩
  · rintro ⟨r, hr, e⟩
    obtain ⟨k, hk, hs⟩ := keep_any (t := t) (nums_mem.1 hr)
    obtain ⟨j, hj, ej⟩ := List.mem_iff_getElem.1 hk
    refine ⟨(j : Int), nums_mem.2 ⟨by omega, by rw [less_len]; omega⟩, ?_⟩
    rw [less_hits hj]
    have : (keepT t).getD j 0 = k := by rw [List.getD_eq_getElem?_getD, List.getElem?_eq_getElem hj]; exact ej
    rw [this]
    exact hs g hgr e

theorem keep_pair (t : Ste) : (keepT t).Pairwise (· < ·) := by
  refine List.Pairwise.sublist (List.filter_sublist (l := nums t.length)) ?_
  exact (nums_up t).1
theorem one_of {z : List Int} (hz : z.Pairwise (· < ·)) (x : Int) : (z.filter fun j => x == j).length ≤ 1 := by
  have h1 : (z.filter fun j => x == j).Pairwise (· < ·) := hz.sublist List.filter_sublist
  have h2 : ∀ y ∈ z.filter (fun j => x == j), x = y := fun y hy => eq_of_beq (List.mem_filter.1 hy).2
  generalize z.filter (fun j => x == j) = l at h1 h2
  match l, h1, h2 with
  | [], _, _ => simp
  | [_], _, _ => simp
  | a :: b :: l, h1, h2 =>
    have e1 := h2 a (by simp)
    have e2 := h2 b (by simp)
    have := (List.pairwise_cons.1 h1).1 b (by simp)
    omega
/-- The smallest cover is as small. -/
theorem less_cover {t : Ste} (h : okT t) : (coverS (lessT t)).length = (coverS t).length := by
  obtain ⟨hok, hg⟩ := less_ok h
  have hop := less_open h
  obtain ⟨s1, s2, s3⟩ := coverS_spec t
  obtain ⟨r1, r2, r3⟩ := coverS_spec (lessT t)
  have up : (coverS t).length ≤ (coverS (lessT t)).length := by
    obtain ⟨q1, q2⟩ := isSet8_pair.1 r1
    rw [less_len] at q2
    generalize coverS (lessT t) = z at r2 q1 q2 ⊢
    have hset : isSet8 (z.map fun j => (keepT t).getD j.toNat 0) t.length = true := by
      rw [isSet8_pair]
      constructor
      · rw [List.pairwise_map]
        refine List.Pairwise.imp_of_mem (fun {a b} ha hb hab => ?_) q1
        have ha2 := q2 a ha
        have hb2 := q2 b hb
        have := (List.pairwise_iff_getElem.1 (keep_pair t)) a.toNat b.toNat (by omega) (by omega) (by omega)
        simpa [List.getD_eq_getElem?_getD, show a.toNat < (keepT t).length by omega, show b.toNat < (keepT t).length by omega] using this
      · intro r hr
        obtain ⟨j, hj, rfl⟩ := List.mem_map.1 hr
        have hj2 := q2 j hj
        exact (keep_mem.1 (mem_getD (by omega))).1
    have hcov : coverB t (z.map fun j => (keepT t).getD j.toNat 0) = true := by
      unfold coverB at r2 ⊢
      rw [decide_eq_true_eq] at r2 ⊢
      rw [hop] at r2
      rw [← r2, metL_length, metL_length, hg]
      congr 1
      refine filt_congr fun g hgr => ?_
      rw [List.any_map, Bool.eq_iff_iff, List.any_eq_true, List.any_eq_true]
      constructor
      · rintro ⟨j, hj, e⟩
        refine ⟨j, hj, ?_⟩
        have hj2 := q2 j hj
        have := less_hits (t := t) (j := j.toNat) (by omega) g
        rw [show ((j.toNat : Nat) : Int) = j by omega] at this
        rw [this]; exact e
      · rintro ⟨j, hj, e⟩
        refine ⟨j, hj, ?_⟩
        have hj2 := q2 j hj
        have := less_hits (t := t) (j := j.toNat) (by omega) g
        rw [show ((j.toNat : Nat) : Int) = j by omega] at this
        rw [this] at e; exact e
    rcases s3 _ hset hcov with q | ⟨q, _⟩
    · rw [List.length_map] at q; omega
    · rw [List.length_map] at q; omega
  have down : (coverS (lessT t)).length ≤ (coverS t).length := by
    have hin := isSet8_in s1
    generalize coverS t = a at s2 hin ⊢
    have hd : ∀ r : Int, ∃ j : Int, (0 ≤ r ∧ r < t.length) → (0 ≤ j ∧ j < (keepT t).length) ∧ ∀ g, g < goals8 t → hits t r g = true → hits (lessT t) j g = true := by
      intro r
      by_cases hr : 0 ≤ r ∧ r < t.length
      · obtain ⟨k, hk, hs⟩ := keep_any (t := t) hr
        obtain ⟨j, hj, ej⟩ := List.mem_iff_getElem.1 hk
        refine ⟨(j : Int), fun _ => ⟨⟨by omega, by omega⟩, fun g hgr e => ?_⟩⟩
        rw [less_hits hj]
        have : (keepT t).getD j 0 = k := by rw [List.getD_eq_getElem?_getD, List.getElem?_eq_getElem hj]; exact ej
        rw [this]
        exact hs g hgr e
      · exact ⟨0, fun q => absurd q hr⟩
    obtain ⟨d, hd⟩ := Classical.axiomOfChoice hd
    have hzp : ((nums (lessT t).length).filter fun j => a.any fun r => d r == j).Pairwise (· < ·) := (nums_up (lessT t)).1.sublist List.filter_sublist
    have hset : isSet8 ((nums (lessT t).length).filter fun j => a.any fun r => d r == j) (lessT t).length = true := isSet8_pair.2 ⟨hzp, fun r hr => nums_mem.1 (List.mem_filter.1 hr).1⟩
    have hle : ((nums (lessT t).length).filter fun j => a.any fun r => d r == j).length ≤ a.length := by
      refine count_le (fun r j => d r == j) a _ (fun j hj => ?_) fun r _ => one_of hzp (d r)
      obtain ⟨r, hr, e⟩ := List.any_eq_true.1 (List.mem_filter.1 hj).2
      exact ⟨r, hr, e⟩
    have hcov : coverB (lessT t) ((nums (lessT t).length).filter fun j => a.any fun r => d r == j) = true := by
      have hm : metL t a = openL t := met_eq (fun r hr => nums_mem.2 (hin r hr)) (by unfold coverB at s2; exact of_decide_eq_true s2)
      unfold coverB
      rw [decide_eq_true_eq, hop, ← hm, metL_length, metL_length, hg]
      refine Nat.le_antisymm ?_ ?_
      · have h1 := met_le_open (t := lessT t) (l := (nums (lessT t).length).filter fun j => a.any fun r => d r == j) (fun r hr => nums_mem.1 (List.mem_filter.1 hr).1)
        rw [hop, ← hm, metL_length, metL_length, hg] at h1
        exact h1
      · refine filt_le fun g hgr hh => ?_
        rw [List.mem_range] at hgr
        obtain ⟨r, hr, e⟩ := List.any_eq_true.1 hh
        obtain ⟨q1, q2⟩ := hd r (hin r hr)
        refine List.any_eq_true.2 ⟨d r, List.mem_filter.2 ⟨nums_mem.2 ⟨q1.1, by rw [less_len]; exact q1.2⟩, List.any_eq_true.2 ⟨r, hr, by simp⟩⟩, q2 g hgr e⟩
    rcases r3 _ hset hcov with q | ⟨q, _⟩
    · omega
    · omega
  omega

end Go.Tk
/- Plain facts of layer 8: a suite without a goal. No program in sight. -/
set_option linter.unusedSimpArgs false
set_option linter.unusedVariables false
set_option linter.unnecessarySimpa false
namespace Go.Tk
open Go Go.RowKit

def cutG (g : Nat) (r : List Int) : List Int := r.take g ++ r.drop (g + 1)
def dropT (t : Ste) (g : Nat) : Ste := t.map (cutG g)
def backG (g k : Nat) : Nat := if k < g then k else k + 1

theorem cutG_len {g : Nat} {r : List Int} (h : g < r.length) : (cutG g r).length = r.length - 1 := by
  unfold cutG
  simp
  omega
theorem cutG_get {g : Nat} {r : List Int} (h : g < r.length) (k : Nat) : (cutG g r).getD k 0 = r.getD (backG g k) 0 := by
  unfold cutG backG
  simp only [List.getD_eq_getElem?_getD]
  congr 1
  by_cases hk : k < g
  · rw [if_pos hk, List.getElem?_append_left (by simp; omega), List.getElem?_take_of_lt hk]
  · rw [if_neg hk, List.getElem?_append_right (by simp; omega), List.getElem?_drop]
    congr 1
    simp
    omega
theorem drop_len (t : Ste) (g : Nat) : (dropT t g).length = t.length := by simp [dropT]
theorem drop_get {t : Ste} {g j : Nat} (hj : j < t.length) : (dropT t g).getD j [] = cutG g (t.getD j []) := by
  unfold dropT
  simp [List.getD_eq_getElem?_getD, hj]
theorem drop_goals {t : Ste} (h : okT t) {g : Nat} (hg : g < goals8 t) : goals8 (dropT t g) = goals8 t - 1 := by
  have h0 : 0 < t.length := by
    rcases Nat.eq_zero_or_pos t.length with q | q
    · rw [List.eq_nil_of_length_eq_zero q] at hg
      simp [goals8] at hg
    · exact q
  unfold goals8
  rw [drop_get h0]
  exact cutG_len hg
theorem drop_ok {t : Ste} (h : okT t) {g : Nat} (hg : g < goals8 t) : okT (dropT t g) := by
  refine ⟨by rw [drop_len]; exact h.1, by rw [drop_goals h hg]; have := h.2.1; omega, fun r hr => ?_⟩
  unfold dropT at hr
  obtain ⟨q, hq, rfl⟩ := List.mem_map.1 hr
  have h3 := h.2.2 q hq
  refine ⟨by rw [drop_goals h hg, cutG_len (by omega), h3.1], fun x hx => ?_⟩
  unfold cutG at hx
  rcases List.mem_append.1 hx with y | y
  · exact h3.2 x (List.mem_of_mem_take y)
  · exact h3.2 x (List.mem_of_mem_drop y)
theorem drop_hits {t : Ste} (h : okT t) {g : Nat} (hg : g < goals8 t) {r : Int} (hr : 0 ≤ r ∧ r < t.length) (k : Nat) : hits (dropT t g) r k = hits t r (backG g k) := by
  unfold hits
  rw [drop_get (by omega), cutG_get (by rw [okT_row h (by omega)]; exact hg)]
/-- What covers the suite covers it without a goal too. -/
theorem cover_iff {t : Ste} {l : List Int} (hl : inT t l) : coverB t l = true ↔ ∀ g, g < goals8 t → (∃ r ∈ nums t.length, hits t r g = true) → ∃ r ∈ l, hits t r g = true := by
  unfold coverB
  rw [decide_eq_true_eq, openL, metL_length, metL_length]
  constructor
  · intro h g hg ⟨r, hr, e⟩
    have he := filt_eq (p := fun g => l.any fun r => hits t r g) (q := fun g => (nums t.length).any fun r => hits t r g) (l := List.range (goals8 t)) (fun g hg q => by
      obtain ⟨r, hr, e⟩ := List.any_eq_true.1 q
      exact List.any_eq_true.2 ⟨r, nums_mem.2 (hl r hr), e⟩) h
    have hm : g ∈ (List.range (goals8 t)).filter fun g => (nums t.length).any fun r => hits t r g := List.mem_filter.2 ⟨List.mem_range.2 hg, List.any_eq_true.2 ⟨r, hr, e⟩⟩
    rw [← he] at hm
    exact List.any_eq_true.1 (List.mem_filter.1 hm).2
  · intro h
    congr 1
    refine filt_congr fun g hg => ?_
    rw [List.mem_range] at hg
    rw [Bool.eq_iff_iff, List.any_eq_true, List.any_eq_true]
    constructor
    · rintro ⟨r, hr, e⟩
      exact ⟨r, nums_mem.2 (hl r hr), e⟩
    · exact h g hg
theorem drop_cover {t : Ste} (h : okT t) {g : Nat} (hg : g < goals8 t) : (coverS (dropT t g)).length ≤ (coverS t).length := by
  obtain ⟨s1, s2, s3⟩ := coverS_spec t
  obtain ⟨r1, r2, r3⟩ := coverS_spec (dropT t g)
  rw [drop_len] at r3
  have hin := isSet8_in s1
  have hc : coverB (dropT t g) (coverS t) = true := by
    rw [cover_iff (by intro r hr; rw [drop_len]; exact hin r hr)]
    rw [drop_goals h hg, drop_len]
    intro k hk ⟨r, hr, e⟩
    rw [drop_hits h hg (nums_mem.1 hr)] at e
    obtain ⟨q, hq, e2⟩ := (cover_iff hin).1 s2 (backG g k) (by unfold backG; split <;> omega) ⟨r, hr, e⟩
    exact ⟨q, hq, by rw [drop_hits h hg (hin q hq)]; exact e2⟩
  rcases r3 _ s1 hc with q | q
  · omega
  · have := q.1; omega
end Go.Tk
/- The engine, part X: walks by hand, with stretches of the run. No conditions. -/
set_option linter.unusedSimpArgs false
set_option linter.unusedVariables false
namespace Go.Tk
open Go Go.RowKit

section
variable {P : Program} {B : Bs} {G : Nat → Gh} {m : Mem} {w w' w0 : World}

/-- As MRel.re, where no one ranges. -/
theorem MRel.re2 (hm : MRel P B G m w w0) (hit : ∀ k g l, m k = some (g, l) → l.isIt = false) {fo kb : Nat → Prop} {tv : Nat → Option Obj} {kv : Nat → Option Value} {ro : Option Nat} {lb : Nat} (hlb : lb ≤ w'.heap.size) (hos : w'.os = w.os) (htp : w'.tape = w.tape) (hout : w'.output = w.output) (hsz : w.heap.size ≤ w'.heap.size)
    (hc : ∀ b, isC w b → ¬ B.fo b → w'.heap[b]? = w.heap[b]?) (hl : ∀ b, b < B.n → w'.heap[b]? = w.heap[b]?) (hfo : ∀ b, b < w.heap.size → fo b → B.fo b) (hp : ∀ b, fo b ∨ kb b → b < w'.heap.size ∧ w'.heap[b]? = tv b)
    (ho : ∀ b, fo b ∨ kb b → b < w.heap.size → (B.fo b ∨ B.kb b) ∨ ∀ k g l, m k = some (g, l) → l.mut = true → ¬ ownL (G k) l b) :
    MRel P (B.wi fo kb tv kv ro lb) G m w' w0 ∧ ∀ {V : V} {v : Value}, ERep P B G m w V v → ERep P (B.wi fo kb tv kv ro lb) G m w' V v := by
  have hdS : ∀ f b, b < w.heap.size → dS B G m f b → dS (B.wi fo kb tv kv ro lb) G m f b := fun f b hlt h => ⟨h.1, h.2.1, fun hT => h.2.2 (hfo b hlt hT)⟩
  have hK : ∀ f, Keep (dS B G m f) w w' := fun f => ⟨hsz, fun b hb hS => hc b hb hS.2.2⟩
  have hcc : ∀ {t : T} {f : Bool} {y : t.den} {cs : List Value}, (reps P t).c w (dS B G m f) y cs → (reps P t).c w' (dS (B.wi fo kb tv kv ro lb) G m f) y cs := fun h => c_keep _ h (hK _) (hdS _)
  have hvv : ∀ {t : T} {y : t.den} {cs : List Value}, (reps P t).v w (dS B G m false) y cs [] → (reps P t).v w' (dS (B.wi fo kb tv kv ro lb) G m false) y cs [] := fun h => v_keep _ h (hK _) (hdS _)
  have hown : ∀ k g l b, m k = some (g, l) → l.mut = true → ownL (G k) l b → w'.heap[b]? = w.heap[b]? := by
    intro k g l b hk hmut e
    refine hc b ?_ fun hT => hm.frn.2 k g l b hk hmut e (.inl hT)
    rcases (hm.loc k g l hk).own_isC hmut e with h | ⟨A, ys, i, rfl⟩ | rfl
    · exact h
    · have := hit k g _ hk; cases this
    · have := hit k g _ hk; cases this
  refine ⟨⟨fun hlo => ?_, Nat.le_trans hm.base hsz, ?_, hm.inj, ⟨hp, ?_⟩, hlb⟩, ?_⟩
  · have := hm.low hlo
    exact ⟨hos.trans this.os, htp.trans this.tape, hout.trans this.output, Nat.le_trans this.size hsz, fun i hi => (hl i hi).trans (this.block i hi)⟩
  · intro k g l hk
    have hl := hm.loc k g l hk
    have hb := hown k g l
    cases l with
    | box f t x =>
      obtain ⟨b, cur, e, h1, h2, h3, h4, h5⟩ := hl
      exact ⟨b, cur, e, h1, h2, h3, (hb b hk rfl ⟨0, h1⟩).trans h4, hcc h5⟩
    | sl f t xs =>
      unfold LRep at hl ⊢
      exact hl.ext (fun b o e => hb b hk rfl ⟨o, e⟩) fun _ _ h' => hcc h'
    | fz f t xs =>
      unfold LRep at hl ⊢
      exact hcc hl
    | fb f t x =>
      obtain ⟨b, h1, h2⟩ := hl
      exact ⟨b, h1, hcc (t := .ref t) h2⟩
    | nl f t xss hh hole =>
      obtain ⟨vs, h1, h2, h3, h4, h5, h6, h7⟩ := hl
      exact ⟨vs, h1.ext (fun b o e => hb b hk rfl (.inl ⟨o, e⟩)) fun _ _ h => h, h2, h3, fun n xs hn hh => (h4 n xs hn hh).ext (fun b o e => hb b hk rfl (.inr ⟨n, o, e⟩)) fun _ _ h' => hcc h', h5, h6, h7⟩
    | mv => trivial
    | rg fr A ys i => trivial
    | it A ys i => have := hit k g _ hk; cases this
    | itx => have := hit k g _ hk; cases this
  · intro k g l b hk hmut e hb
    have hlt := ((hm.loc k g l hk).own_lt hmut e).1
    rcases ho b hb hlt with h | h
    · exact hm.frn.2 k g l b hk hmut e h
    · exact h k g l hk hmut e
  · intro V
    induction V with
    | any => intro v _; trivial
    | d f t x => rintro v ⟨cs, e, h⟩; exact ⟨cs, e, hcc h⟩
    | c v0 => intro v e; exact e
    | ptr k g p => intro v h; exact h
    | own k g => intro v h; exact h
    | sub k g lo hi => intro v h; exact h
    | inn k g h n => intro v h; exact h
    | ipt k g h n p => intro v h; exact h
    | ept f t x =>
      rintro v ⟨b, o, cs, e, h1, h2, h3, h4⟩
      exact ⟨b, o, cs, e, hdS f b h2 h1, Nat.lt_of_lt_of_le h2 hsz, h3.keep (fun hb => hc b hb h1.2.2), hcc h4⟩
    | fnc g t x => rintro v ⟨caps, e, hv⟩; exact ⟨caps, e, hvv hv⟩
    | bnd g t x => rintro v ⟨caps, e, hv⟩; exact ⟨caps, e, hvv hv⟩
    | ub p q => intro v h; exact h
    | yld => intro v h; exact h
    | tup n l ih => rintro v ⟨vs, e, hn, hv⟩; exact ⟨vs, e, hn, fun i u hu => ih i (hv i u hu)⟩

/-- The bounds of a walk by hand: kb: blocks that no one changes, as they are now. -/
abbrev hB (n : Nat) (S : Nat → Prop) (kv : Nat → Option Value) (kb : Nat → Prop) (tv : Nat → Option Obj) : Bs := { n := n, S := S, j := some dJ, kv := kv, kb := kb, tv := tv }

theorem Rel.re {n0 n : Nat} {S : Nat → Prop} {kv kv' : Nat → Option Value} {kb kb' : Nat → Prop} {tv : Nat → Option Obj} {st : St} {a : Act} (hR : Rel P (hB n0 S kv kb tv) w0 n st a w) (hit : ∀ k g l, st.loc k = some (g, l) → l.isIt = false)
    (hos : w'.os = w.os) (htp : w'.tape = w.tape) (hout : w'.output = w.output) (hsz : w.heap.size ≤ w'.heap.size) (hc : ∀ b, isC w b → w'.heap[b]? = w.heap[b]?) (hl : ∀ b, b < n0 → w'.heap[b]? = w.heap[b]?)
    (hkb : ∀ b, kb' b → b < w'.heap.size) (hk2 : ∀ b, kb' b → b < w.heap.size → kb b ∨ ¬ isC w b) (hkp : ∀ t v, kv' t = some v → a.tmps.getD t undef = v) : Rel P (hB n0 S kv' kb' fun b => w'.heap[b]?) w0 n st a w' := by
  obtain ⟨G, hm, he⟩ := hR.ex
  obtain ⟨r1, r2⟩ := hm.re2 (w' := w') hit (fo := fun _ => False) (kb := kb') (tv := fun b => w'.heap[b]?) (kv := kv') (ro := none) (lb := 0) (Nat.zero_le _) hos htp hout hsz (fun b hb _ => hc b hb) hl (fun _ _ h => h) (fun b h => by
    rcases h with h | h
    · exact h.elim
    · exact ⟨hkb b h, rfl⟩) (fun b h hlt => by
    rcases h with h | h
    · exact h.elim
    · rcases hk2 b h hlt with h | h
      · exact .inl (.inr h)
      · refine .inr fun k g l hk hmut e => h ?_
        rcases (hm.loc k g l hk).own_isC hmut e with h | ⟨A, ys, i, rfl⟩ | rfl
        · exact h
        · have := hit k g _ hk; cases this
        · have := hit k g _ hk; cases this)
  have hd := hR.nd.2 rfl
  exact ⟨⟨G, r1, fun t => r2 (he t)⟩, hR.sz, by rw [hd]; exact ⟨Marks.nil _ _, fun _ => rfl⟩, hkp⟩

theorem Rel.kept {n0 n : Nat} {S : Nat → Prop} {kv : Nat → Option Value} {kb : Nat → Prop} {tv : Nat → Option Obj} {st : St} {a : Act} (hR : Rel P (hB n0 S kv kb tv) w0 n st a w) {b : Nat} (hb : kb b) : w.heap[b]? = tv b := by
  obtain ⟨G, hm, he⟩ := hR.ex
  exact (hm.frn.1 b (.inr hb)).2
theorem Rel.kept_lt {n0 n : Nat} {S : Nat → Prop} {kv : Nat → Option Value} {kb : Nat → Prop} {tv : Nat → Option Obj} {st : St} {a : Act} (hR : Rel P (hB n0 S kv kb tv) w0 n st a w) {b : Nat} (hb : kb b) : b < w.heap.size := by
  obtain ⟨G, hm, he⟩ := hR.ex
  exact (hm.frn.1 b (.inr hb)).1
/-- As the world is now. -/
theorem Rel.now {n0 n : Nat} {S : Nat → Prop} {kv : Nat → Option Value} {kb : Nat → Prop} {tv : Nat → Option Obj} {st : St} {a : Act} (hR : Rel P (hB n0 S kv kb tv) w0 n st a w) (hit : ∀ k g l, st.loc k = some (g, l) → l.isIt = false) : Rel P (hB n0 S kv kb fun b => w.heap[b]?) w0 n st a w :=
  hR.re hit rfl rfl rfl (Nat.le_refl _) (fun _ _ => rfl) (fun _ _ => rfl) (fun _ h => hR.kept_lt h) (fun _ h _ => .inl h) hR.kp
theorem Rel.low {n0 n : Nat} {S : Nat → Prop} {kv : Nat → Option Value} {kb : Nat → Prop} {tv : Nat → Option Obj} {st : St} {a : Act} (hR : Rel P (hB n0 S kv kb tv) w0 n st a w) : Below n0 w0 w := by
  obtain ⟨G, hm, he⟩ := hR.ex
  exact hm.low rfl

/-- Other temporaries. -/
theorem rel_env {n0 n : Nat} {S : Nat → Prop} {kv kv' : Nat → Option Value} {kb : Nat → Prop} {tv : Nat → Option Obj} {E E' : List (Nat × V)} {M : List (Nat × Tk.L)} {a a' : Act} (hR : Rel P (hB n0 S kv kb tv) w0 n (mkSt (E, M)) a w) (hsz : a'.tmps.size = n) (hd : a'.defers = [])
    (hkp : ∀ t v, kv' t = some v → a'.tmps.getD t undef = v)
    (hE : ∀ t U, lk E' t = some U → (lk E t = some U ∧ a'.tmps.getD t undef = a.tmps.getD t undef) ∨ ∀ G, MRel P (hB n0 S kv' kb tv) G (mkLoc M) w w0 → ERep P (hB n0 S kv' kb tv) G (mkLoc M) w U (a'.tmps.getD t undef)) :
    Rel P (hB n0 S kv' kb tv) w0 n (mkSt (E', M)) a' w := by
  obtain ⟨G, hm, he⟩ := hR.ex
  have hm' : MRel P (hB n0 S kv' kb tv) G (mkLoc M) w w0 := ⟨hm.low, hm.base, fun k g l hk => by
    have := hm.loc k g l hk
    cases l <;> exact this, hm.inj, hm.frn, hm.lbd⟩
  refine ⟨⟨G, hm', fun t => ?_⟩, hsz, by rw [hd]; exact ⟨Marks.nil _ _, fun _ => rfl⟩, hkp⟩
  show ERep P _ G (mkLoc M) w (match lk E' t with | some v => v | none => .any) _
  cases hl : lk E' t with
  | none => trivial
  | some U =>
    rcases hE t U hl with ⟨h1, h2⟩ | h
    · have h3 := he t
      have h4 : (mkSt (E, M)).env t = U := by
        show (match lk E t with | some v => v | none => .any) = U
        rw [h1]
      rw [h4] at h3
      rw [h2]
      have key : ∀ (U : Tk.V) (v : Value), ERep P (hB n0 S kv kb tv) G (mkLoc M) w U v → ERep P (hB n0 S kv' kb tv) G (mkLoc M) w U v := by
        intro U
        induction U with
        | tup n l ih => rintro v ⟨vs, e, hn, hv⟩; exact ⟨vs, e, hn, fun i u hu => ih i _ (hv i u hu)⟩
        | _ => intro v h; exact h
      exact key U _ h3
    · exact h G hm'

/-- A new variable, that is written to no more. -/
theorem rel_box {n0 n : Nat} {S : Nat → Prop} {kv : Nat → Option Value} {kb : Nat → Prop} {tv : Nat → Option Obj} {E E' : List (Nat × Tk.V)} {M : List (Nat × Tk.L)} {a a' : Act} (hR : Rel P (hB n0 S kv kb tv) w0 n (mkSt (E, M)) a w) (hit : ∀ k g l, (mkSt (E, M)).loc k = some (g, l) → l.isIt = false)
    {d : Nat} {t : T} {x : t.den} {cs : List Value} {ty : TypeId} (hcs : ∀ W S', (reps P t).c W S' x cs) (hsz : a'.tmps.size = n) (hd : a'.defers = []) (hkp : ∀ t v, kv t = some v → a'.tmps.getD t undef = v) (hdv : a'.tmps.getD d undef = .pointer (some ⟨w.heap.size, 0, none⟩))
    (hE : ∀ t' U, lk E' t' = some U → (lk E t' = some U ∧ a'.tmps.getD t' undef = a.tmps.getD t' undef) ∨ (t' = d ∧ U = .ept true t x) ∨ ∀ B G m w, ERep P B G m w U (a'.tmps.getD t' undef)) :
    Rel P (hB n0 S kv kb fun b => (w.alloc (.cells cs.toArray ty)).heap[b]?) w0 n (mkSt (E', M)) a' (w.alloc (.cells cs.toArray ty)) := by
  have hkv := hR.kp
  obtain ⟨G, hm, he⟩ := hR.ex
  have hbel : Below w.heap.size w (w.alloc (.cells cs.toArray ty)) := (Below.refl _ w).alloc (Nat.le_refl _) _
  obtain ⟨r1, r2⟩ := hm.re2 (w' := w.alloc (.cells cs.toArray ty)) hit (fo := fun _ => False) (kb := kb) (tv := fun b => (w.alloc (.cells cs.toArray ty)).heap[b]?) (kv := kv) (ro := none) (lb := 0) (Nat.zero_le _) rfl rfl rfl (by simp) (fun b hb _ => hbel.block b hb.lt) (fun b hb => hbel.block b (Nat.lt_of_lt_of_le hb hm.base)) (fun _ _ h => h) (fun b h => by
    rcases h with h | h
    · exact h.elim
    · have := (hm.frn.1 b (.inr h)).1
      exact ⟨by simp; omega, rfl⟩) (fun b h hlt => by
    rcases h with h | h
    · exact h.elim
    · exact .inl (.inr h))
  refine ⟨⟨G, r1, fun t' => ?_⟩, hsz, by rw [hd]; exact ⟨Marks.nil _ _, fun _ => rfl⟩, hkp⟩
  show ERep P _ G (mkLoc M) _ (match lk E' t' with | some v => v | none => .any) _
  cases hl : lk E' t' with
  | none => trivial
  | some U =>
    rcases hE t' U hl with ⟨h1, h2⟩ | ⟨rfl, rfl⟩ | h
    · have h3 := he t'
      have h4 : (mkSt (E, M)).env t' = U := by
        show (match lk E t' with | some v => v | none => .any) = U
        rw [h1]
      rw [h4] at h3
      rw [h2]
      exact r2 h3
    · rw [hdv]
      refine ⟨w.heap.size, 0, cs, rfl, ⟨⟨fun _ => hm.base, .inl hm.base⟩, fun k g l hk hmut e => ?_, fun h => h⟩, by simp, ?_, hcs _ _⟩
      · have := ((hm.loc k g l hk).own_lt hmut e).1
        omega
      · intro j v hj
        simp only [World.cell?, heap_alloc_new]
        simpa using hj
    · exact h _ _ _ _

/-- Behind calls and new variables: what was known, and what lies in new blocks. -/
theorem rel_new {n0 n : Nat} {S : Nat → Prop} {kv kv' : Nat → Option Value} {kb : Nat → Prop} {tv : Nat → Option Obj} {E E' : List (Nat × Tk.V)} {M : List (Nat × Tk.L)} {a a' : Act} (hR : Rel P (hB n0 S kv kb tv) w0 n (mkSt (E, M)) a w) (hit : ∀ k g l, (mkSt (E, M)).loc k = some (g, l) → l.isIt = false)
    (hbel : Below w.heap.size w w') (hsz : a'.tmps.size = n) (hd : a'.defers = []) (hkp : ∀ t v, kv' t = some v → a'.tmps.getD t undef = v)
    (hE : ∀ t U, lk E' t = some U → (∃ t2, lk E t2 = some U ∧ a'.tmps.getD t undef = a.tmps.getD t2 undef) ∨ ∀ G, (∀ b, w.heap.size ≤ b → dS (hB n0 S kv' kb fun b => w'.heap[b]?) G (mkLoc M) true b) → ERep P (hB n0 S kv' kb fun b => w'.heap[b]?) G (mkLoc M) w' U (a'.tmps.getD t undef)) :
    Rel P (hB n0 S kv' kb fun b => w'.heap[b]?) w0 n (mkSt (E', M)) a' w' := by
  obtain ⟨G, hm, he⟩ := hR.ex
  obtain ⟨r1, r2⟩ := hm.re2 (w' := w') hit (fo := fun _ => False) (kb := kb) (tv := fun b => w'.heap[b]?) (kv := kv') (ro := none) (lb := 0) (Nat.zero_le _) hbel.os hbel.tape hbel.output hbel.size (fun b hb _ => hbel.block b hb.lt) (fun b hb => hbel.block b (Nat.lt_of_lt_of_le hb hm.base)) (fun _ _ h => h) (fun b h => by
    rcases h with h | h
    · exact h.elim
    · exact ⟨Nat.lt_of_lt_of_le (hm.frn.1 b (.inr h)).1 hbel.size, rfl⟩) (fun b h hlt => by
    rcases h with h | h
    · exact h.elim
    · exact .inl (.inr h))
  refine ⟨⟨G, r1, fun t' => ?_⟩, hsz, by rw [hd]; exact ⟨Marks.nil _ _, fun _ => rfl⟩, hkp⟩
  show ERep P _ G (mkLoc M) _ (match lk E' t' with | some v => v | none => .any) _
  cases hl : lk E' t' with
  | none => trivial
  | some U =>
    rcases hE t' U hl with ⟨t2, h1, h2⟩ | h
    · have h3 := he t2
      have h4 : (mkSt (E, M)).env t2 = U := by
        show (match lk E t2 with | some v => v | none => .any) = U
        rw [h1]
      rw [h4] at h3
      rw [h2]
      exact r2 h3
    · refine h G fun b hb => ⟨⟨fun _ => Nat.le_trans hm.base hb, .inl (Nat.le_trans hm.base hb)⟩, fun k g l hk hmut e => ?_, fun h => h⟩
      have := ((hm.loc k g l hk).own_lt hmut e).1
      omega
/-- Nothing is known. -/
theorem rel_zero {n : Nat} {S : Nat → Prop} {kv : Nat → Option Value} {kb : Nat → Prop} {a : Act} (hsz : a.tmps.size = n) (hd : a.defers = []) (hkp : ∀ t v, kv t = some v → a.tmps.getD t undef = v) (hkb : ∀ b, kb b → b < w.heap.size) :
    Rel P (hB w.heap.size S kv kb fun b => w.heap[b]?) w n (mkSt ([], [])) a w :=
  ⟨⟨fun _ => gh undef none, ⟨fun _ => Below.refl _ _, Nat.le_refl _, fun k g l hk => (by cases hk), fun k k' g g' l l' b hk => (by cases hk), ⟨fun b h => by
    rcases h with h | h
    · exact h.elim
    · exact ⟨hkb b h, rfl⟩, fun k g l b hk => (by cases hk)⟩, Nat.zero_le _⟩, fun t => trivial⟩, hsz, by rw [hd]; exact ⟨Marks.nil _ _, fun _ => rfl⟩, hkp⟩
/-- A datum's value. -/
theorem rel_d {n0 n : Nat} {S : Nat → Prop} {kv : Nat → Option Value} {kb : Nat → Prop} {tv : Nat → Option Obj} {E : List (Nat × Tk.V)} {M : List (Nat × Tk.L)} {a : Act} (hR : Rel P (hB n0 S kv kb tv) w0 n (mkSt (E, M)) a w) {d : Nat} {f : Bool} {t : T} {x : t.den} (h : lk E d = some (.d f t x)) :
    ∃ (cs : List Value) (S' : Nat → Prop), a.tmps.getD d undef = mkV t cs ∧ (reps P t).c w S' x cs := by
  obtain ⟨G, hm, he⟩ := hR.ex
  have h3 := he d
  have h4 : (mkSt (E, M)).env d = .d f t x := by
    show (match lk E d with | some v => v | none => .any) = _
    rw [h]
  rw [h4] at h3
  obtain ⟨cs, e, hc⟩ := h3
  exact ⟨cs, _, e, hc⟩
theorem rel_int {n0 n : Nat} {S : Nat → Prop} {kv : Nat → Option Value} {kb : Nat → Prop} {tv : Nat → Option Obj} {E : List (Nat × Tk.V)} {M : List (Nat × Tk.L)} {a : Act} (hR : Rel P (hB n0 S kv kb tv) w0 n (mkSt (E, M)) a w) {d : Nat} {f : Bool} {x : Int} (h : lk E d = some (.d f .int x)) : a.tmps.getD d undef = .int .i64 x ∧ inI x := by
  obtain ⟨cs, S', e, hc, hi⟩ := rel_d hR h
  subst hc
  exact ⟨e, hi⟩
theorem rel_bool {n0 n : Nat} {S : Nat → Prop} {kv : Nat → Option Value} {kb : Nat → Prop} {tv : Nat → Option Obj} {E : List (Nat × Tk.V)} {M : List (Nat × Tk.L)} {a : Act} (hR : Rel P (hB n0 S kv kb tv) w0 n (mkSt (E, M)) a w) {d : Nat} {f : Bool} {x : Bool} (h : lk E d = some (.d f .bool x)) : a.eval (.tmp d) = .bool x := by
  obtain ⟨cs, S', e, hc⟩ := rel_d hR h
  have hc : cs = [.bool x] := hc
  subst hc
  exact e

/-- The beginning of a function. -/
theorem rel_start {A : T} {x : A.den} {vs : List Value} {S : Nat → Prop} {n : Nat} (hA : (isTup A && Nat.ble (arity A) n) = true) (hv : (reps P A).v w S x vs []) :
    Rel P (hB w.heap.size S (fun _ => none) (fun _ => False) fun b => w.heap[b]?) w n (mkSt (argE A x 0, [])) { tmps := vs.toArray ++ Array.replicate (n - vs.toArray.size) undef, defers := [] } w := by
  rw [Bool.and_eq_true] at hA
  have hle := Nat.le_of_ble_eq_true hA.2
  let G : Nat → Gh := fun _ => gh undef none
  obtain ⟨i1, i2, i3⟩ := argE_ok (S' := dS (hB w.heap.size S (fun _ => none) (fun _ => False) fun b => w.heap[b]?) G (mkLoc []) false) (fun b hb => ⟨⟨fun e => (by cases e), .inr hb⟩, fun k g l hk => by simp [mkLoc, lk] at hk, fun h => h⟩) A x vs 0 hA.1 hv
  refine ⟨⟨G, ⟨fun _ => Below.refl _ _, Nat.le_refl _, fun k g l hk => by simp [mkSt, mkLoc, lk] at hk, fun k k' g g' l l' b hk => by simp [mkSt, mkLoc, lk] at hk, ⟨fun b h => by rcases h with h | h <;> exact h.elim, fun k g l b hk => by simp [mkSt, mkLoc, lk] at hk⟩, Nat.zero_le _⟩, fun t => ?_⟩, by simp; omega, ⟨Marks.nil _ _, fun _ => rfl⟩, fun t v e => by cases e⟩
  show ERep P _ G (mkLoc []) w (match lk (argE A x 0) t with | some v => v | none => .any) _
  split
  · rename_i V e
    obtain ⟨_, v, f', a, y, cs, j1, rfl, rfl, j4, rfl⟩ := i3 t V e
    refine ⟨cs, ?_, j4⟩
    have hlt : t < vs.length := (List.getElem?_eq_some_iff.1 j1).1
    have j1 : vs[t]? = some (mkV a cs) := j1
    have e1 : (vs.toArray ++ Array.replicate (n - vs.toArray.size) undef)[t]? = some (mkV a cs) := by
      rw [Array.getElem?_append_left (by simpa using hlt)]
      simpa using j1
    simp only [Array.getD_eq_getD_getElem?, e1, Option.getD_some]
  · trivial

/-- The run from here to a label; what follows is by hand. -/
theorem eng_to {cx : Cx} (hk : Cok P cx) (hmix : P.follows .mixedOrders = true) (hx : cx.X.itf = none) (hpn : cx.X.pan = none) {code : Code} {n0 : Nat} {S : Nat → Prop} {kv : Nat → Option Value} {kb : Nat → Prop} {tv : Nat → Option Obj} {st : St} {a : Act} {Q : Exit → Act → World → Prop} (ly : List (Pth × Lay))
    (hR : Rel P (hB n0 S kv kb tv) w0 cx.n st a w) (hok : (okC cx.n code && noRF code) = true) (hkv : ∀ t ∈ wrs code, kv t = none)
    (h : ∀ Λ : Pth → Lst → Prop, Λ = Sem P (hB n0 S kv kb tv) w0 cx.n code Q → Wl cx (LyL ly) Λ code (fun _ _ => False) st) : code.wpIn (Fw none) 0 P Q a w := by
  rw [Bool.and_eq_true] at hok
  have := (sound hk hmix code (hB n0 S kv kb tv) w0 (LyL ly) (fun _ _ => False) Q hok.1 ⟨hkv, .inl hok.2, fun fr e => (by rw [hx] at e; cases e), .inl hpn⟩ (fun e st a w h => h.elim) fun p hp => by rw [hpn] at hp; cases hp).1 st a w (h _ rfl) hR
  exact this
/-- The run through a stretch of code without loops. -/
theorem eng_thru {cx : Cx} (hk : Cok P cx) (hmix : P.follows .mixedOrders = true) (hx : cx.X.itf = none) (hpn : cx.X.pan = none) {code : Code} {n0 : Nat} {S : Nat → Prop} {kv : Nat → Option Value} {kb : Nat → Prop} {tv : Nat → Option Obj} {st : St} {a : Act} {Q : Exit → Act → World → Prop} (ly : Lay) (x : Lst)
    (hR : Rel P (hB n0 S kv kb tv) w0 cx.n st a w) (hok : (okC cx.n code && noRF code) = true) (hkv : ∀ t ∈ wrs code, kv t = none)
    (h : Wl cx (fun _ => none) (fun _ _ => False) code (fun e st => match e with | .normal => canK ly (fun y => y = x) st | _ => False) st) (hQ : ∀ a w, Rel P (hB n0 S kv kb tv) w0 cx.n (mkSt x) a w → Q .normal a w) : code.wpIn (Fw none) 0 P Q a w := by
  rw [Bool.and_eq_true] at hok
  have hs := sound hk hmix code (hB n0 S kv kb tv) w0 (fun _ => none) (fun e st => match e with | .normal => canK ly (fun y => y = x) st | _ => False) Q hok.1 ⟨hkv, .inl hok.2, fun fr e => (by rw [hx] at e; cases e), .inl hpn⟩ (fun e st a w h hR => by
    cases e <;> first | exact h.elim | skip
    obtain ⟨y, rfl, hR2⟩ := canK_ok h hR
    exact hQ a w hR2) fun p hp => by rw [hpn] at hp; cases hp
  refine hs.1 st a w ?_ hR
  exact Wl_mono _ _ _ _ _ _ _ (fun _ _ h => h.elim) (fun _ _ h => h) h

/-- An own slice, for a result. -/
theorem rel_own {n0 n : Nat} {S : Nat → Prop} {kv : Nat → Option Value} {kb : Nat → Prop} {tv : Nat → Option Obj} {E : List (Nat × V)} {M : List (Nat × Tk.L)} {a : Act} (hR : Rel P (hB n0 S kv kb tv) w0 n (mkSt (E, M)) a w) {d k : Nat} {t : T} {xs : List t.den}
    (hE : lk E d = some (.own k 0)) (hM : lk M k = some (.sl true t xs)) : ∃ ob : Option (Nat × Nat), repOwn ((reps P t).c w fun b => n0 ≤ b ∧ ¬ b ∈ (ob.map (·.1)).toList) t.csize w (fun _ => True) xs (a.tmps.getD d undef) ob ∧ ∀ b ∈ (ob.map (·.1)).toList, n0 ≤ b := by
  obtain ⟨G, hm, he⟩ := hR.ex
  have hl : mkLoc M k = some (0, .sl true t xs) := by
    show (match lk M k with | some l => some (0, l) | none => none) = _
    rw [hM]
  have h1 := he d
  have h2 : (mkSt (E, M)).env d = .own k 0 := by
    show (match lk E d with | some v => v | none => .any) = _
    rw [hE]
  rw [h2] at h1
  obtain ⟨g', l, q1, _, q2⟩ := h1
  have q1 : mkLoc M k = some (g', l) := q1
  rw [hl] at q1
  cases q1
  have h3 : a.tmps.getD d undef = (G k).hdr := q2 rfl
  have h4 : repOwn ((reps P t).c w (dS (hB n0 S kv kb tv) G (mkLoc M) true)) t.csize w (fun b => n0 ≤ b) xs (G k).hdr (G k).blk := hm.loc k 0 _ hl
  rw [h3]
  refine ⟨(G k).blk, ?_, ?_⟩
  · rcases h4 with h4 | ⟨b, off, cap, cur, e, g1, g2, g3, g4, g5, g6, g7, g8⟩
    · exact .inl h4
    · refine .inr ⟨b, off, cap, cur, e, g1, g2, trivial, g4, g5, g6, g7, repL_mono (fun _ _ h => c_mono _ h fun b' _ hb => ⟨hb.1.1 rfl, fun hin => ?_⟩) _ _ g8⟩
      rw [g1] at hin
      simp at hin
      exact hb.2.1 k 0 _ hl rfl ⟨off, by rw [g1, hin]⟩
  · intro b hb
    rcases h4 with ⟨_, _, h4⟩ | ⟨b', off, cap, cur, e, g1, g2, g3, g4, g5, g6, g7, g8⟩
    · rw [h4] at hb; simp at hb
    · rw [g1] at hb
      simp at hb
      rw [hb]; exact g3

/-! ### A region's operations, in their order -/
variable {ops : Array Oper} {Q : Exit → Act → World → Prop} {rest : List Nat} {a : Act}
theorem sp_val {k : Nat} {o : Oper} {v : Value} {w1 : World} (ho : ops[k]? = some o) (hg : o.guard = none) (hr : (execOp a.eval o).run P w = .ok (.value v) w1) (h : wpOpsIn (Fw none) 0 P ops Q rest (a.put o.dst v) w1) :
    wpOpsIn (Fw none) 0 P ops Q (k :: rest) a w := by
  rw [wpOpsIn_cons]
  have hw : Region.wanted o (yielded ops a.tmps) = true := by unfold Region.wanted; rw [hg]
  unfold wpOpIn
  rw [ho]
  simp only [hw, if_true]
  refine ⟨fun _ _ => trivial, ?_⟩
  show Oper.uponIn (Fw none) 0 P o a _ Q ((o.semAt none a.eval).run P w)
  rw [Oper.semAt_none, hr]
  exact upon_in h
theorem sp_call {k : Nat} {o : Oper} {f : FuncId} {args : Array Value} (ho : ops[k]? = some o) (hg : o.guard = none) (hr : (execOp a.eval o).run P w = .ok (.enter f args) w)
    (h : Calls P f args w fun e w1 => ∃ v, e = .returned v ∧ wpOpsIn (Fw none) 0 P ops Q rest (a.put o.dst v) w1) : wpOpsIn (Fw none) 0 P ops Q (k :: rest) a w := by
  rw [wpOpsIn_cons]
  have hw : Region.wanted o (yielded ops a.tmps) = true := by unfold Region.wanted; rw [hg]
  unfold wpOpIn
  rw [ho]
  simp only [hw, if_true]
  refine ⟨fun _ _ => trivial, ?_⟩
  show Oper.uponIn (Fw none) 0 P o a _ Q ((o.semAt none a.eval).run P w)
  rw [Oper.semAt_none, hr]
  refine upon_in (r := .ok (.enter f args) w) ?_
  refine Calls.mono h ?_
  rintro e w1 ⟨v, rfl, h⟩
  exact h

/-- A stretch of a region by the run. -/
theorem stretch_wp {cx : Cx} (hk : Cok P cx) {st : St} (hR : Rel P B w0 cx.n st a w) (hro : B.ro = none) (k c : Nat) (hkv : ∀ o ∈ (ops.toList.drop k).take c, ∀ d, o.dst = some d → B.kv d = none) (hd : dstsOK cx.n ((ops.toList.drop k).take c) = true) (hlen : ((ops.toList.drop k).take c).length = c)
    {Φ : St → Prop} (h : runG cx ops.toList ((ops.toList.drop k).take c) st [] fun st _ => Φ st) (hQ : ∀ st a w, Φ st → Rel P B w0 cx.n st a w → wpOpsIn (Fw none) 0 P ops Q rest a w) : wpOpsIn (Fw none) 0 P ops Q (List.range' k c ++ rest) a w := by
  obtain ⟨τ, _, h⟩ := runL_lex (R := Real P B w0 cx.n) (Pd := fun o => ∀ d, o.dst = some d → B.kv d = none) (fun st o e tu hp => real_yop hk hp) _ st [] 0 (fun _ => ([], [])) hkv ⟨a, w, hR⟩ hd rfl (runL_of_runG _ _ _ _ h)
  have key : ∀ (l : List Oper) (k : Nat) (st : St) (a : Act) (w : World), (∀ o ∈ l, ∀ d, o.dst = some d → B.kv d = none) → (∀ j, j < l.length → l[j]? = ops.toList[k + j]?) → Rel P B w0 cx.n st a w → lexA cx ops.toList τ (fun st => Φ st) l (0 + (k - k)) st ∨ True → True := fun _ _ _ _ _ _ _ _ _ => trivial
  clear key
  have key : ∀ (l : List Oper) (k i : Nat) (st : St) (a : Act) (w : World), (∀ o ∈ l, ∀ d, o.dst = some d → B.kv d = none) → (∀ j, j < l.length → l[j]? = ops.toList[k + j]?) → Rel P B w0 cx.n st a w → lexA cx ops.toList τ (fun st => Φ st) l i st → wpOpsIn (Fw none) 0 P ops Q (List.range' k l.length ++ rest) a w := by
    intro l
    induction l with
    | nil => intro k i st a w _ _ hR h; exact hQ _ _ _ h hR
    | cons o l ih =>
      intro k i st a w hkv hl hR h
      obtain ⟨e, hy, h⟩ := h
      rw [List.length_cons, List.range'_succ, List.cons_append, wpOpsIn_cons]
      have ho : ops.toList[k]? = some o := by simpa using (hl 0 (by simp)).symm
      have ho2 : ops.toList.toArray[k]? = some o := by simpa using ho
      have := yop_wp hk (Q := Q) (hkv o (by simp)) hR hy ho2 (K := fun a w => wpOpsIn (Fw none) 0 P ops Q (List.range' (k + 1) l.length ++ rest) a w) fun a' w' hR' => ih (k + 1) (i + 1) _ _ _ (fun o ho => hkv o (by simp [ho])) (fun j hj => by
        have := hl (j + 1) (by simp; omega)
        simpa [Nat.add_assoc, Nat.add_comm 1 j] using this) hR' h
      rw [hro] at this
      simpa using this
  have := key ((ops.toList.drop k).take c) k 0 st a w hkv (fun j hj => by
    rw [List.getElem?_take, List.getElem?_drop]
    rw [hlen] at hj
    rw [if_pos hj]) hR h
  rw [hlen] at this
  exact this

/-! ### Loops -/
theorem loop_upX {F : Fence} {c : Code} {n : Nat} (A : Nat → Act → World → Prop) (last : ∀ a W, A n a W → c.wpIn F 0 P (Exit.then (fun _ _ => False) Q) a W)
    (step : ∀ m a W, m < n → A m a W → c.wpIn F 0 P (Exit.then (A (m + 1)) Q) a W) : ∀ m, m ≤ n → ∀ a W, A m a W → LoopAt F P c Q a W := by
  have key : ∀ d m, m + d = n → ∀ a W, A m a W → LoopAt F P c Q a W := by
    intro d
    induction d with
    | zero =>
      intro m hm a W h
      obtain rfl : m = n := by omega
      refine loopAt_round (wpIn_mono (last a W h) fun e a' W' he => ?_)
      cases e <;> first | exact he.elim | exact he
    | succ d ih =>
      intro m hm a W h
      refine loopAt_round (wpIn_mono (step m a W (by omega) h) fun e a' W' he => ?_)
      cases e <;> first | exact ih (m + 1) (by omega) _ _ he | exact he
  exact fun m hm a W h => key (n - m) m (by omega) a W h
theorem loop_downX {F : Fence} {c : Code} (A : Nat → Act → World → Prop) (step : ∀ m a W, A m a W → c.wpIn F 0 P (Exit.then (fun a W => ∃ m', m' < m ∧ A m' a W) Q) a W) : ∀ m a W, A m a W → LoopAt F P c Q a W := by
  intro m
  induction m using Nat.strongRecOn with
  | ind m ih =>
    intro a W h
    refine loopAt_round (wpIn_mono (step m a W h) fun e a' W' he => ?_)
    cases e <;> first | (obtain ⟨m', h1, h2⟩ := he; exact ih m' h1 _ _ h2) | exact he
/-! ### Regions, one operation after another, by hand -/
def ql (P : Program) : List Oper → (Act → World → Prop) → (Exit → Act → World → Prop) → Act → World → Prop
  | [], K, _, a, w => K a w
  | o :: l, K, Q, a, w => o.upon P a (fun a' w' => ql P l K Q a' w') Q ((execOp a.eval o).run P w)
theorem ql_mono {P : Program} {o : Oper} {a : Act} {K K' : Act → World → Prop} {Q : Exit → Act → World → Prop} {r : Result Next} (h : ∀ a w, K a w → K' a w) (hr : o.upon P a K Q r) : o.upon P a K' Q r := by
  cases r with
  | halt x w => cases x <;> exact hr
  | ok x w =>
    cases x <;> simp only [Oper.upon] at hr ⊢
    case value v => exact h _ _ hr
    case skip => exact h _ _ hr
    case defer d => exact h _ _ hr
    case enter f args =>
      refine hr.mono ?_
      intro e w' he
      cases e with
      | returned v => exact h _ _ he
      | panicked c => exact he
      | outgrown => exact he
    case row row args =>
      intro c cs
      obtain ⟨v, w', hv, hs⟩ := hr c cs
      exact ⟨v, w', h _ _ hv, hs⟩
theorem ql_ops {P : Program} {ops : List Oper} {Q : Exit → Act → World → Prop} : ∀ (l : List Oper) (k : Nat) (a : Act) (w : World), (∀ j, l[j]? = ops[k + j]?) → (∀ o ∈ l, o.guard = none) → ql P l (Q .normal) Q a w →
    wpOpsIn (Fw none) 0 P ops.toArray Q (List.range' k l.length) a w
  | [], k, a, w, _, _, h => by
    have h : Q .normal a w := h
    simpa [wpOpsIn] using h
  | o :: l, k, a, w, hl, hg, h => by
    rw [List.length_cons, List.range'_succ, wpOpsIn_cons]
    have ho : ops[k]? = some o := by simpa using (hl 0).symm
    have hl' : ∀ j, l[j]? = ops[k + 1 + j]? := fun j => by have := hl (j + 1); simpa [Nat.add_assoc, Nat.add_comm 1 j] using this
    have hw : Region.wanted o (yielded ops.toArray a.tmps) = true := by unfold Region.wanted; rw [hg o (by simp)]
    unfold wpOpIn
    rw [show ops.toArray[k]? = some o by simpa using ho]
    simp only [hw, if_true]
    refine ⟨fun _ _ => trivial, ?_⟩
    show Oper.uponIn (Fw none) 0 P o a _ Q ((o.semAt none a.eval).run P w)
    rw [Oper.semAt_none]
    exact upon_in (ql_mono (fun a' w' h' => ql_ops l (k + 1) a' w' hl' (fun q hq => hg q (by simp [hq])) h') h)
theorem ql_region {P : Program} {ops : Array Oper} {id : Nat} {Q : Exit → Act → World → Prop} {a : Act} {w : World} (hg : (ops.toList.all fun o => o.guard.isNone) = true) (h : ql P ops.toList (Q .normal) Q a w) : (Code.region id ops false).wpIn (Fw none) 0 P Q a w := by
  refine wpIn_region ?_
  have := ql_ops (P := P) (ops := ops.toList) (Q := Q) ops.toList 0 a w (by simp) (fun o ho => by simpa using List.all_eq_true.1 hg o ho) h
  simpa [List.range_eq_range'] using this


/-- The first operations by hand, the others as wpOpsIn. -/
theorem ql_pre {P : Program} {ops : Array Oper} {id : Nat} {Q : Exit → Act → World → Prop} {a : Act} {w : World} (c : Nat) (hc : c ≤ ops.size) (hg : ((ops.toList.take c).all fun o => o.guard.isNone) = true) (h : ql P (ops.toList.take c) (fun a w => wpOpsIn (Fw none) 0 P ops Q (List.range' c (ops.size - c)) a w) Q a w) : (Code.region id ops false).wpIn (Fw none) 0 P Q a w := by
  refine wpIn_region ?_
  have key : ∀ (l : List Oper) (k : Nat) (a : Act) (w : World), k + l.length = c → (∀ j, j < l.length → l[j]? = ops[k + j]?) → (∀ o ∈ l, o.guard = none) → ql P l (fun a w => wpOpsIn (Fw none) 0 P ops Q (List.range' c (ops.size - c)) a w) Q a w →
      wpOpsIn (Fw none) 0 P ops Q (List.range' k l.length ++ List.range' c (ops.size - c)) a w := by
    intro l
    induction l with
    | nil => intro k a w _ _ _ h; exact h
    | cons o l ih =>
      intro k a w hk hl hg h
      rw [List.length_cons, List.range'_succ, List.cons_append, wpOpsIn_cons]
      have ho : ops[k]? = some o := by simpa using (hl 0 (by simp)).symm
      have hw : Region.wanted o (yielded ops a.tmps) = true := by unfold Region.wanted; rw [hg o (by simp)]
      unfold wpOpIn
      rw [ho]
      simp only [hw, if_true]
      refine ⟨fun _ _ => trivial, ?_⟩
      show Oper.uponIn (Fw none) 0 P o a _ Q ((o.semAt none a.eval).run P w)
      rw [Oper.semAt_none]
      exact upon_in (ql_mono (fun a' w' h' => ih (k + 1) a' w' (by simp only [List.length_cons] at hk; omega) (fun j hj => by
        have := hl (j + 1) (by simp; omega)
        simpa [Nat.add_assoc, Nat.add_comm 1 j] using this) (fun q hq => hg q (by simp [hq])) h') h)
  have hlen : (ops.toList.take c).length = c := by rw [List.length_take, Array.length_toList]; exact Nat.min_eq_left hc
  have := key (ops.toList.take c) 0 a w (by omega) (fun j hj => by
    rw [hlen] at hj
    rw [List.getElem?_take, if_pos hj]
    simp) (fun o ho => by simpa using List.all_eq_true.1 hg o ho) h
  rw [hlen] at this
  have e : List.range' 0 c ++ List.range' c (ops.size - c) = List.range ops.size := by
    rw [List.range_eq_range']
    have := List.range'_append_1 (s := 0) (m := c) (n := ops.size - c)
    rw [Nat.zero_add] at this
    rw [this]
    congr 1
    omega
  rw [e] at this
  exact this
end
end Go.Tk
