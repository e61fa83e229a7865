import Derived.Test.YtmedjckknalpbaaC8l
import Derived.Test.YtmedjckknalpbaaP8e2
set_option linter.unusedSimpArgs false
set_option linter.unusedVariables false
set_option linter.unnecessarySimpa false
namespace Go.Tk
open Go Go.RowKit
abbrev cCheap8r : Con := { A := (.cons (.sl (.sl .int)) (.cons (.sl .int) .nil)), R := (.cons (.sl .int) (.cons .int .nil)), pre := fun x => okT x.1 ∧ x.2.1.length = x.1.length ∧ (∀ c', c' ∈ x.2.1 → 1 ≤ c' ∧ c' ≤ 99), F := fun x => ((cheapT x.1 x.2.1).1, (cheapT x.1 x.2.1).2, ()) }
def cCheap8r_0 (Λ1 : (List Int) → Int → Int → Prop) (Λ2 : Int → Int → (List Int) → Int → Int → Prop) (t : (List (List Int))) (costs : (List Int)) (y0 : (List Int)) (y1 : Int) : Prop :=
  okT t ∧ Λ1 ([] : List Int) (-1 : Int) (0 : Int)
def cCheap8r_1 (Λ1 : (List Int) → Int → Int → Prop) (Λ2 : Int → Int → (List Int) → Int → Int → Prop) (t : (List (List Int))) (costs : (List Int)) (y0 : (List Int)) (y1 : Int)  (out_1 : (List Int)) (least_1 : Int) (bits_1 : Int) : Prop :=
  (0 ≤ (List.length t : Int) ∧ (List.length t : Int) < 64 ∧ inI ((1 : Int) * 2 ^ (Int.toNat (List.length t : Int)))) ∧ (if (decide (bits_1 < ((1 : Int) * 2 ^ (Int.toNat (List.length t : Int))))) = true then ((0 ≤ bits_1 ∧ bits_1 < 4294967296 ∧ 0 ≤ (List.length t : Int) ∧ (List.length t : Int) ≤ 60) ∧ ((okT t ∧ inT t (setOf (List.length t : Int).toNat bits_1.toNat) ∧ (setOf (List.length t : Int).toNat bits_1.toNat).length ≤ 1000000) ∧ (if ((List.length (metL t (setOf (List.length t : Int).toNat bits_1.toNat)) : Int) != (List.length (openL t) : Int)) = true then (inI (bits_1 + (1 : Int)) ∧ Λ1 out_1 least_1 (bits_1 + (1 : Int))) else Λ2 bits_1 least_1 out_1 (0 : Int) (0 : Int)))) else (out_1 = y0 ∧ least_1 = y1 ∧ True))
def cCheap8r_2 (Λ1 : (List Int) → Int → Int → Prop) (Λ2 : Int → Int → (List Int) → Int → Int → Prop) (t : (List (List Int))) (costs : (List Int)) (y0 : (List Int)) (y1 : Int) (bits_1 : Int) (least_1 : Int) (out_2 : (List Int)) (sum_2 : Int) (i_2 : Int) : Prop :=
  if (decide (i_2 < (List.length (setOf (List.length t : Int).toNat bits_1.toNat) : Int))) = true then (idx i_2 (List.length (setOf (List.length t : Int).toNat bits_1.toNat) : Int) ∧ (idx (List.getD (setOf (List.length t : Int).toNat bits_1.toNat) (Int.toNat i_2) 0) (List.length costs : Int) ∧ (inI (sum_2 + (List.getD costs (Int.toNat (List.getD (setOf (List.length t : Int).toNat bits_1.toNat) (Int.toNat i_2) 0)) 0)) ∧ (inI (i_2 + (1 : Int)) ∧ Λ2 bits_1 least_1 out_2 (sum_2 + (List.getD costs (Int.toNat (List.getD (setOf (List.length t : Int).toNat bits_1.toNat) (Int.toNat i_2) 0)) 0)) (i_2 + (1 : Int)))))) else (if (decide (least_1 < (0 : Int))) = true then (true = true ∧ (true = true ∧ (inI (bits_1 + (1 : Int)) ∧ Λ1 (setOf (List.length t : Int).toNat bits_1.toNat) sum_2 (bits_1 + (1 : Int))))) else (True ∧ (if (bif false then true else (decide (sum_2 < least_1))) = true then (true = true ∧ (inI (bits_1 + (1 : Int)) ∧ Λ1 (setOf (List.length t : Int).toNat bits_1.toNat) sum_2 (bits_1 + (1 : Int)))) else (if (sum_2 == least_1) = true then (((setOf (List.length t : Int).toNat bits_1.toNat).length ≤ 1000000 ∧ out_2.length ≤ 1000000) ∧ (True ∧ (True ∧ (if (bif false then true else (bif true then (decide (cmpL (setOf (List.length t : Int).toNat bits_1.toNat) out_2 < 0)) else false)) = true then (inI (bits_1 + (1 : Int)) ∧ Λ1 (setOf (List.length t : Int).toNat bits_1.toNat) sum_2 (bits_1 + (1 : Int))) else (inI (bits_1 + (1 : Int)) ∧ Λ1 out_2 least_1 (bits_1 + (1 : Int))))))) else (false = false ∧ (True ∧ (if (bif false then true else false) = true then (inI (bits_1 + (1 : Int)) ∧ Λ1 (setOf (List.length t : Int).toNat bits_1.toNat) sum_2 (bits_1 + (1 : Int))) else (inI (bits_1 + (1 : Int)) ∧ Λ1 out_2 least_1 (bits_1 + (1 : Int))))))))))
theorem cCheap8r_law (h : ∀ (t : (List (List Int))) (costs : (List Int)), cCheap8r.A.wf (t, costs, ()) → (okT t ∧ costs.length = t.length ∧ (∀ c', c' ∈ costs → 1 ≤ c' ∧ c' ≤ 99)) → ∀ (Λ1 : (List Int) → Int → Int → Prop) (Λ2 : Int → Int → (List Int) → Int → Int → Prop), (∀ (out_1 : (List Int)) (least_1 : Int) (bits_1 : Int), cCheap8r_1 Λ1 Λ2 t costs ((cheapT t costs).1) ((cheapT t costs).2) out_1 least_1 bits_1 → Λ1 out_1 least_1 bits_1) → (∀ (bits_1 : Int) (least_1 : Int) (out_2 : (List Int)) (sum_2 : Int) (i_2 : Int), cCheap8r_2 Λ1 Λ2 t costs ((cheapT t costs).1) ((cheapT t costs).2) bits_1 least_1 out_2 sum_2 i_2 → Λ2 bits_1 least_1 out_2 sum_2 i_2) → cCheap8r_0 Λ1 Λ2 t costs ((cheapT t costs).1) ((cheapT t costs).2)) : ConOK Go.Proofs.Try.prog 80 cCheap8r := by
  refine lawL (Γ := [(65, cBefore8r), (71, cMet8r), (61, cOpen8r), (63, cSub8r)]) (Θ := Th) (n := 69) [([1, 1, 1, 1, 0, 1, 0], ⟨[(0, false), (1, false), (6, true), (7, true), (8, true), (9, true)], []⟩), ([1, 1, 1, 1, 0, 1, 0, 0, 1, 0, 0, 1, 1, 1, 0, 1, 0], ⟨[(0, false), (1, false), (6, true), (7, true), (8, true), (9, true), (10, true), (11, true), (12, true)], [(26, true)]⟩)] ⟨cBefore8r_ok, cMet8r_ok, cOpen8r_ok, cSub8r_ok, trivial⟩ (by kernel_rfl) th_ok mix_ok Go.Proofs.Try.func80 (by kernel_rfl) ?_
  intro x hw hp Λ hC
  have h0 := h x.1 x.2.1 hw hp (fun out_1 least_1 bits_1 => Λ [1, 1, 1, 1, 0, 1, 0] ([(0, .d false (.sl (.sl .int)) x.1), (1, .d false (.sl .int) x.2.1), (6, .d true .int (List.length (openL x.1) : Int)), (7, .d true (.sl .int) out_1), (8, .d true .int least_1), (9, .d true .int bits_1)], [])) (fun bits_1 least_1 out_2 sum_2 i_2 => Λ [1, 1, 1, 1, 0, 1, 0, 0, 1, 0, 0, 1, 1, 1, 0, 1, 0] ([(0, .d false (.sl (.sl .int)) x.1), (1, .d false (.sl .int) x.2.1), (6, .d true .int (List.length (openL x.1) : Int)), (7, .d true (.sl .int) out_2), (8, .d true .int least_1), (9, .d true .int bits_1), (10, .own 26 0), (11, .d true .int sum_2), (12, .d true .int i_2)], [(26, .sl true .int (setOf (List.length x.1 : Int).toNat bits_1.toNat))])) (fun out_1 least_1 bits_1 hb => hC [1, 1, 1, 1, 0, 1, 0] ([(0, .d false (.sl (.sl .int)) x.1), (1, .d false (.sl .int) x.2.1), (6, .d true .int (List.length (openL x.1) : Int)), (7, .d true (.sl .int) out_1), (8, .d true .int least_1), (9, .d true .int bits_1)], []) (Eq.mpr (by kernel_rfl) hb)) (fun bits_1 least_1 out_2 sum_2 i_2 hb => hC [1, 1, 1, 1, 0, 1, 0, 0, 1, 0, 0, 1, 1, 1, 0, 1, 0] ([(0, .d false (.sl (.sl .int)) x.1), (1, .d false (.sl .int) x.2.1), (6, .d true .int (List.length (openL x.1) : Int)), (7, .d true (.sl .int) out_2), (8, .d true .int least_1), (9, .d true .int bits_1), (10, .own 26 0), (11, .d true .int sum_2), (12, .d true .int i_2)], [(26, .sl true .int (setOf (List.length x.1 : Int).toNat bits_1.toNat))]) (Eq.mpr (by kernel_rfl) hb))
  exact Eq.mpr (by kernel_rfl) h0
theorem cCheap8r_ok : ConOK Go.Proofs.Try.prog 80 cCheap8r := by
  refine cCheap8r_law ?_
  intro t costs hw hp Λ1 Λ2 h1 h2
  unfold cCheap8r_0
  obtain ⟨ht, hl, hc⟩ := hp
  have h8 := ht.1
  obtain ⟨n, hn⟩ : ∃ n, n = t.length := ⟨_, rfl⟩
  have h2n : 2 ^ n ≤ 256 := Nat.le_trans (Nat.pow_le_pow_right (by omega) (show n ≤ 8 by omega)) (by decide)
  obtain ⟨N, hN⟩ : ∃ N : Nat, N = 2 ^ n := ⟨_, rfl⟩
  rw [← hN] at h2n
  have e : (1 : Int) * 2 ^ (Int.toNat ((t.length : Nat) : Int)) = (N : Int) := by rw [Int.toNat_natCast, ← hn, Int.one_mul, hN]; norm_cast
  refine ⟨ht, ?_⟩
  refine upto (n := N) (Q := fun b => Λ1 (cheapK t costs b).1 (cheapK t costs b).2 b) ?_ ?_ 0 (Nat.zero_le _)
  · apply h1; unfold cCheap8r_1
    refine ⟨⟨by omega, by omega, by rw [e]; unfold inI; omega⟩, ?_⟩
    rw [if_neg (by rw [decide_eq_true_eq, e]; omega)]
    have : cheapK t costs N = cheapT t costs := by
      unfold cheapK cheapT
      rw [List.take_of_length_le (by rw [setsL_len, ← hn, ← hN]; exact Nat.le_refl _)]
    rw [this]
    exact ⟨rfl, rfl, trivial⟩
  · intro b hb ih
    apply h1; unfold cCheap8r_1
    refine ⟨⟨by omega, by omega, by rw [e]; unfold inI; omega⟩, ?_⟩
    rw [if_pos (by rw [decide_eq_true_eq, e]; omega)]
    rw [cheapK_succ (by rw [← hn, ← hN]; exact hb)] at ih
    have hol := cheapK_len t costs b
    obtain ⟨S, hS⟩ : ∃ S, S = setOf t.length b := ⟨_, rfl⟩
    have hSe : setOf (Int.toNat ((t.length : Nat) : Int)) (Int.toNat (b : Int)) = S := by rw [Int.toNat_natCast, Int.toNat_natCast, hS]
    have hSl : S.length ≤ 8 := by rw [hS]; have := setOf_len t.length b; omega
    have hSm : ∀ r ∈ S, 0 ≤ r ∧ r < t.length := fun r hr => setOf_mem (by rw [← hS]; exact hr)
    rw [← hS] at ih
    rw [hSe]
    generalize cheapK t costs b = st at ih hol ⊢
    obtain ⟨out, least⟩ := st
    have hin : inI ((b : Int) + 1) := by unfold inI; omega
    refine ⟨⟨by omega, by omega, by omega, by omega⟩, ⟨ht, hSm, by omega⟩, ?_⟩
    unfold stepC at ih
    by_cases hcv : (metL t S).length = (openL t).length
    · have hcB : coverB t S = true := by unfold coverB; simpa using hcv
      rw [if_neg (by simp [hcv])]
      have hv : ∀ r ∈ S, 0 ≤ costs.getD r.toNat 0 ∧ costs.getD r.toNat 0 ≤ 99 := fun r hr => by
        have q := hSm r hr
        have := hc _ (mem_getD (d := 0) (l := costs) (i := r.toNat) (by omega))
        omega
      have hsb : ∀ i, 0 ≤ ((S.take i).map fun r => costs.getD r.toNat 0).sum ∧ ((S.take i).map fun r => costs.getD r.toNat 0).sum ≤ 1000 := fun i => by
        have := sum_bound (l := S.take i) (f := fun r => costs.getD r.toNat 0) (a := 0) (b := 99) fun g hg => hv g (List.mem_of_mem_take hg)
        have h2 : (S.take i).length ≤ 8 := by rw [List.length_take]; omega
        omega
      refine upto (n := S.length) (Q := fun i => Λ2 (b : Int) least out (((S.take i).map fun r => costs.getD r.toNat 0).sum) (i : Int)) ?_ ?_ 0 (Nat.zero_le _)
      · apply h2; unfold cCheap8r_2
        rw [hSe, if_neg (by simp), List.take_length]
        have hce : (S.map fun r => costs.getD r.toNat 0).sum = costOf costs S := rfl
        rw [hce]
        dsimp only at ih hol
        by_cases l0 : least < 0
        · rw [if_pos (by simpa using l0)]
          rw [if_pos ⟨hcB, .inl l0⟩] at ih
          exact ⟨rfl, rfl, hin, ih⟩
        · rw [if_neg (by simpa using l0)]
          refine ⟨trivial, ?_⟩
          by_cases l1 : costOf costs S < least
          · rw [if_pos (by simpa using l1)]
            rw [if_pos ⟨hcB, .inr (.inl l1)⟩] at ih
            exact ⟨rfl, hin, ih⟩
          · rw [if_neg (by simpa using l1)]
            by_cases l2 : costOf costs S = least
            · rw [if_pos (by simp [l2])]
              refine ⟨⟨by omega, by omega⟩, trivial, trivial, ?_⟩
              by_cases l3 : cmpL S out < 0
              · rw [if_pos (by simpa using l3)]
                rw [if_pos ⟨hcB, .inr (.inr ⟨l2, l3⟩)⟩] at ih
                exact ⟨hin, ih⟩
              · rw [if_neg (by simpa using l3)]
                rw [if_neg (by omega)] at ih
                exact ⟨hin, ih⟩
            · rw [if_neg (by simpa using l2)]
              rw [if_neg (by omega)] at ih
              refine ⟨rfl, trivial, ?_⟩
              rw [if_neg (by simp)]
              exact ⟨hin, ih⟩
      · intro i hi ihi
        apply h2; unfold cCheap8r_2
        rw [hSe, if_pos (by simpa using hi), Int.toNat_natCast]
        have h5 := hsb i
        have h6 := hSm _ (mem_getD (d := 0) hi)
        have h7 := hv _ (mem_getD (d := 0) hi)
        rw [sum_take (f := fun r => costs.getD r.toNat 0) hi] at ihi
        generalize S.getD i 0 = g at h6 h7 ihi ⊢
        exact ⟨idx_nat hi, ⟨h6.1, by omega⟩, by unfold inI; omega, by unfold inI; omega, ihi⟩
    · rw [if_pos (by simp; omega)]
      rw [if_neg (fun q => hcv (by have := q.1; unfold coverB at this; simpa using this))] at ih
      exact ⟨hin, ih⟩
abbrev cCoverR : Con := { A := (.cons (.sl (.sl .int)) .nil), R := (.cons (.sl .int) (.cons .int .nil)), pre := fun x => True, F := fun x => ((if validT x.1 = 0 then coverS x.1 else []), validT x.1, ()) }
def cCoverR_0 (Λ1 : Int → (List Int) → Prop) (t : (List (List Int))) (y0 : (List Int)) (y1 : Int) : Prop :=
  True ∧ (if ((validT t) != (0 : Int)) = true then (([] : List Int) = y0 ∧ (validT t) = y1 ∧ True) else Λ1 (0 : Int) ([] : List Int))
def cCoverR_1 (Λ1 : Int → (List Int) → Prop) (t : (List (List Int))) (y0 : (List Int)) (y1 : Int)  (i_1 : Int) (costs_1 : (List Int)) : Prop :=
  if (decide (i_1 < (List.length t : Int))) = true then (List.length costs_1 + List.length [(1 : Int)] ≤ 4294967296 ∧ (inI (i_1 + (1 : Int)) ∧ Λ1 (i_1 + (1 : Int)) (costs_1 ++ [(1 : Int)]))) else ((okT t ∧ costs_1.length = t.length ∧ (∀ c', c' ∈ costs_1 → 1 ≤ c' ∧ c' ≤ 99)) ∧ (((cheapT t costs_1).1) = y0 ∧ (0 : Int) = y1 ∧ True))
theorem cCoverR_law (h : ∀ (t : (List (List Int))), cCoverR.A.wf (t, ()) → ∀ (Λ1 : Int → (List Int) → Prop), (∀ (i_1 : Int) (costs_1 : (List Int)), cCoverR_1 Λ1 t (if validT t = 0 then coverS t else []) (validT t) i_1 costs_1 → Λ1 i_1 costs_1) → cCoverR_0 Λ1 t (if validT t = 0 then coverS t else []) (validT t)) : ConOK Go.Proofs.Try.prog 31 cCoverR := by
  refine lawL (Γ := [(80, cCheap8r), (36, cVal8r)]) (Θ := Th) (n := 30) [([1, 1, 1, 1, 0, 1, 0], ⟨[(0, false), (5, true), (6, true)], [(5, true)]⟩)] ⟨cCheap8r_ok, cVal8r_ok, trivial⟩ (by kernel_rfl) th_ok mix_ok Go.Proofs.Try.func31 (by kernel_rfl) ?_
  intro x hw hp Λ hC
  have h0 := h x.1 hw (fun i_1 costs_1 => Λ [1, 1, 1, 1, 0, 1, 0] ([(0, .d false (.sl (.sl .int)) x.1), (5, .own 5 0), (6, .d true .int i_1)], [(5, .sl true .int costs_1)])) (fun i_1 costs_1 hb => hC [1, 1, 1, 1, 0, 1, 0] ([(0, .d false (.sl (.sl .int)) x.1), (5, .own 5 0), (6, .d true .int i_1)], [(5, .sl true .int costs_1)]) (Eq.mpr (by kernel_rfl) hb))
  exact Eq.mpr (by kernel_rfl) h0
theorem cCoverR_ok : ConOK Go.Proofs.Try.prog 31 cCoverR := by
  refine cCoverR_law ?_
  intro t hw Λ1 h1
  unfold cCoverR_0
  refine ⟨trivial, ?_⟩
  by_cases h0 : validT t = 0
  · rw [if_neg (by simp [h0])]
    rw [if_pos h0, h0] at h1
    have ht := validT_ok.1 h0
    have h8 := ht.1
    refine upto (n := t.length) (Q := fun i => Λ1 i (List.replicate i 1)) ?_ ?_ 0 (Nat.zero_le _)
    · apply h1; unfold cCoverR_1
      rw [if_neg (by simp)]
      refine ⟨⟨ht, by simp, fun c' hc' => by rw [List.eq_of_mem_replicate hc']; omega⟩, ?_, rfl, trivial⟩
      rw [cheap_ones]
    · intro i hi ih
      apply h1; unfold cCoverR_1
      rw [if_pos (by simpa using hi)]
      rw [List.replicate_succ'] at ih
      exact ⟨by simp; omega, by unfold inI; omega, ih⟩
  · rw [if_pos (by simp [h0]), if_neg h0]
    exact ⟨rfl, rfl, trivial⟩
abbrev cCoversL : Con := { A := (.cons (.sl (.sl .int)) .nil), R := (.cons .bool .nil), pre := fun x => True, F := fun x => (true, ()) }
def cCoversL_0  (t : (List (List Int))) (y0 : Bool) : Prop :=
  True ∧ (if (longT t) = true then (True ∧ (true = y0 ∧ True)) else (True ∧ (True ∧ (True ∧ (if (!(decide (((if validT t = 0 then coverS t else [])) = ((if validT t = 0 then coverS t else []))))) = true then (true = true ∧ (false = y0 ∧ True)) else (True ∧ (if (bif false then true else ((validT t) != (validT t))) = true then (false = y0 ∧ True) else (if ((validT t) != (0 : Int)) = true then (True ∧ (true = y0 ∧ True)) else (True ∧ (True ∧ (if (((if rowsT t ((if validT t = 0 then coverS t else [])) = 0 then (if coverB t ((if validT t = 0 then coverS t else [])) then 0 else 7) else rowsT t ((if validT t = 0 then coverS t else [])))) == (0 : Int)) = true then (True ∧ (if (bif true then ((validT t) == (0 : Int)) else false) = true then (True ∧ (if (bif true then (decide ((List.length ((if validT t = 0 then exclT t else [])) : Int) ≤ (List.length ((if validT t = 0 then coverS t else [])) : Int))) else false) = true then (True ∧ (True ∧ ((bif true then true else false) = y0 ∧ True))) else (false = false ∧ (false = y0 ∧ True)))) else (false = false ∧ (false = false ∧ (false = y0 ∧ True))))) else (false = false ∧ (false = false ∧ (false = false ∧ (false = y0 ∧ True)))))))))))))))
theorem cCoversL_law (h : ∀ (t : (List (List Int))), cCoversL.A.wf (t, ()) → cCoversL_0  t true) : ConOK Go.Proofs.Try.prog 7 cCoversL := by
  refine lawL (Γ := [(29, cCheckCov), (27, cCover), (31, cCoverR), (19, cExcluding), (17, cLong8), (21, cSameI8), (18, cSane8)]) (Θ := Th) (n := 57) [] ⟨cCheckCov_ok, cCover_ok, cCoverR_ok, cExcluding_ok, cLong8_ok, cSameI8_ok, cSane8_ok, trivial⟩ (by kernel_rfl) th_ok mix_ok Go.Proofs.Try.func7 (by kernel_rfl) ?_
  intro x hw hp Λ hC
  have h0 := h x.1 hw  
  exact Eq.mpr (by kernel_rfl) h0
theorem cCoversL_ok : ConOK Go.Proofs.Try.prog 7 cCoversL := by
  refine cCoversL_law ?_
  intro t hw
  unfold cCoversL_0
  refine ⟨trivial, ?_⟩
  cases hL : longT t
  · rw [if_neg (by simp)]
    refine ⟨trivial, trivial, trivial, ?_⟩
    rw [if_neg (by simp)]
    refine ⟨trivial, ?_⟩
    rw [if_neg (by simp)]
    by_cases h0 : validT t = 0
    · rw [if_neg (by simp [h0])]
      have ht := validT_ok.1 h0
      obtain ⟨s1, s2, _⟩ := coverS_spec t
      have hr : rowsT t (coverS t) = 0 := by unfold rowsT; rw [if_pos h0, s1]; rfl
      have hle := excl_le_cover ht (isSet8_in s1) s2
      have hle' : ((exclT t).length : Int) ≤ (coverS t).length := by omega
      simp [h0, hr, s2, hle, hle']
    · rw [if_pos (by simp [h0])]
      exact ⟨trivial, rfl, trivial⟩
  · rw [if_pos rfl]
    exact ⟨trivial, rfl, trivial⟩
end Go.Tk
