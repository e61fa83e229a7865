/- SuiteWaits. -/
import Derived.Test.YtmedjckknalpbaaC8t
import Derived.Test.YtmedjckknalpbaaP8y
set_option linter.unusedSimpArgs false
set_option linter.unusedVariables false
set_option linter.unnecessarySimpa false
namespace Go.Tk
open Go Go.RowKit
def shareE (t : Ste) (o : List Int) : Int := if ordT t o = 0 then (if manyT t = 0 then 4 else 0) else ordT t o
theorem gcd_loop {w m : Nat} {Λ : Int → Int → Prop} (hm : 0 < m) (last : Λ (Nat.gcd w m) 0) (step : ∀ a b : Nat, 0 < b → b ≤ m → Λ b (a % b : Nat) → Λ a b) : Λ w m := by
  have key : ∀ b a : Nat, b ≤ m → Nat.gcd a b = Nat.gcd w m → Λ a b := by
    intro b
    induction b using Nat.strongRecOn with
    | ind b ih =>
      intro a hb he
      by_cases h : b = 0
      · subst h
        rw [Nat.gcd_zero_right] at he
        rw [he]; exact last
      · refine step a b (by omega) hb (ih (a % b) (Nat.mod_lt _ (by omega)) b (Nat.le_trans (Nat.le_of_lt (Nat.mod_lt _ (by omega))) hb) ?_)
        rw [← he, Nat.gcd_comm b, ← Nat.gcd_rec, Nat.gcd_comm]
  exact key m w (Nat.le_refl _) rfl
abbrev cShareS : Con := { A := (.cons (.sl (.sl .int)) (.cons (.sl .int) .nil)), R := (.cons tRa (.cons .int .nil)), pre := fun x => x.2.1.length ≤ 1000000, F := fun x => ((if shareE x.1 x.2.1 = 0 then ((shareT x.1 x.2.1).1, (shareT x.1 x.2.1).2, ()) else (0, 0, ())), shareE x.1 x.2.1, ()) }
def cShareS_0 (Λ1 : Int → Int → Prop) (t : (List (List Int))) (order : (List Int)) (y0 : Rtl) (y1 : Int) : Prop :=
  order.length ≤ 1000000 ∧ (if ((ordT t order) != (0 : Int)) = true then ((0, 0, ()) = y0 ∧ (ordT t order) = y1 ∧ True) else (okT t ∧ (inI ((List.length t : Int) * (List.length (openL t) : Int)) ∧ (if (((List.length t : Int) * (List.length (openL t) : Int)) == (0 : Int)) = true then ((0, 0, ()) = y0 ∧ (4 : Int) = y1 ∧ True) else ((okT t ∧ inT t order ∧ order.length ≤ 100) ∧ Λ1 (waitL t order) ((List.length t : Int) * (List.length (openL t) : Int)))))))
def cShareS_1 (Λ1 : Int → Int → Prop) (t : (List (List Int))) (order : (List Int)) (y0 : Rtl) (y1 : Int)  (a_1 : Int) (b_1 : Int) : Prop :=
  if (b_1 != (0 : Int)) = true then ((b_1 ≠ 0 ∧ inI (Int.tmod a_1 b_1)) ∧ Λ1 b_1 (Int.tmod a_1 b_1)) else ((a_1 ≠ 0 ∧ inI (Int.tdiv (waitL t order) a_1)) ∧ ((a_1 ≠ 0 ∧ inI (Int.tdiv ((List.length t : Int) * (List.length (openL t) : Int)) a_1)) ∧ (((Int.tdiv (waitL t order) a_1), (Int.tdiv ((List.length t : Int) * (List.length (openL t) : Int)) a_1), ()) = y0 ∧ (0 : Int) = y1 ∧ True)))
theorem cShareS_law (h : ∀ (t : (List (List Int))) (order : (List Int)), cShareS.A.wf (t, order, ()) → (order.length ≤ 1000000) → ∀ (Λ1 : Int → Int → Prop), (∀ (a_1 : Int) (b_1 : Int), cShareS_1 Λ1 t order (if shareE t order = 0 then ((shareT t order).1, (shareT t order).2, ()) else (0, 0, ())) (shareE t order) a_1 b_1 → Λ1 a_1 b_1) → cShareS_0 Λ1 t order (if shareE t order = 0 then ((shareT t order).1, (shareT t order).2, ()) else (0, 0, ())) (shareE t order)) : ConOK Go.Proofs.Try.prog 51 cShareS := by
  refine lawL (Γ := [(57, cOpen8), (93, cOrdered), (88, cWait)]) (Θ := Th) (n := 45) [([1, 1, 1, 1, 1, 1, 0, 0], ⟨[(4, true), (7, true), (8, true), (9, true), (10, true)], [(4, true)]⟩)] ⟨cOpen8_ok, cOrdered_ok, cWait_ok, trivial⟩ (by kernel_rfl) th_ok mix_ok Go.Proofs.Try.func51 (by kernel_rfl) ?_
  intro x hw hp Λ hC
  have h0 := h x.1 x.2.1 hw hp (fun a_1 b_1 => Λ [1, 1, 1, 1, 1, 1, 0, 0] ([(4, .ptr 4 0 []), (7, .d true .int ((List.length x.1 : Int) * (List.length (openL x.1) : Int))), (8, .d true .int (waitL x.1 x.2.1)), (9, .d true .int a_1), (10, .d true .int b_1)], [(4, .box true tRa tRa.dflt)])) (fun a_1 b_1 hb => hC [1, 1, 1, 1, 1, 1, 0, 0] ([(4, .ptr 4 0 []), (7, .d true .int ((List.length x.1 : Int) * (List.length (openL x.1) : Int))), (8, .d true .int (waitL x.1 x.2.1)), (9, .d true .int a_1), (10, .d true .int b_1)], [(4, .box true tRa tRa.dflt)]) (Eq.mpr (by kernel_rfl) hb))
  exact Eq.mpr (by kernel_rfl) h0
theorem cShareS_ok : ConOK Go.Proofs.Try.prog 51 cShareS := by
  refine cShareS_law ?_
  intro t order hw hp Λ1 h1
  unfold cShareS_0
  refine ⟨hp, ?_⟩
  by_cases h : ordT t order = 0
  · rw [if_neg (by simp [h])]
    obtain ⟨ht, hin, hl, hpm⟩ := ordT_ok h
    have h8 := ht.1
    have hw8 := wait_bd ht (o := order) (by omega)
    have hol := openL_len t
    have h10 := ht.2.1
    have hmany : (t.length : Int) * ((openL t).length : Int) = (manyT t : Int) := by unfold manyT; simp
    have hm80 : manyT t ≤ 8 * 10 := Nat.mul_le_mul h8 (by omega)
    rw [hmany]
    refine ⟨ht, by unfold inI; omega, ?_⟩
    have hE : shareE t order = if manyT t = 0 then 4 else 0 := by unfold shareE; rw [if_pos h]
    by_cases hz : manyT t = 0
    · rw [if_pos (by simp [hz]), hE, if_pos hz]
      exact ⟨rfl, rfl, trivial⟩
    · rw [if_neg (by simpa using hz)]
      rw [hE, if_neg hz] at h1
      refine ⟨⟨ht, hin, by omega⟩, ?_⟩
      have ew : waitL t order = ((waitL t order).toNat : Int) := by omega
      have hg : 0 < Nat.gcd (waitL t order).toNat (manyT t) := Nat.gcd_pos_of_pos_right _ (by omega)
      have hlast : Λ1 ((Nat.gcd (waitL t order).toNat (manyT t) : Nat) : Int) 0 := by
        apply h1; unfold cShareS_1
        rw [if_neg (by simp), hmany]
        generalize hG : Nat.gcd (waitL t order).toNat (manyT t) = g at hg ⊢
        have hx := Nat.div_le_self (waitL t order).toNat g
        have hy := Nat.div_le_self (manyT t) g
        have e1 : Int.tdiv (waitL t order) (g : Int) = (((waitL t order).toNat / g : Nat) : Int) := by rw [ew, Int.toNat_natCast]; exact tdiv_nat _ _
        rw [e1, tdiv_nat]
        have hS : shareT t order = ((((waitL t order).toNat / g : Nat) : Int), ((manyT t / g : Nat) : Int)) := by unfold shareT; rw [hG]
        rw [hS]
        clear e1 hS
        generalize (waitL t order).toNat / g = q1 at hx ⊢
        generalize manyT t / g = q2 at hy ⊢
        exact ⟨⟨by omega, by unfold inI; omega⟩, ⟨by omega, by unfold inI; omega⟩, by simp, rfl, trivial⟩
      have := gcd_loop (Λ := Λ1) (w := (waitL t order).toNat) (m := manyT t) (by omega) hlast (fun a b hb0 hbm ih => by
        apply h1; unfold cShareS_1
        rw [if_pos (by simp; omega)]
        have := Nat.mod_lt a hb0
        rw [tmod_nat]
        exact ⟨⟨by omega, by unfold inI; omega⟩, ih⟩)
      rw [← ew] at this
      exact this
  · rw [if_pos (by simp [h])]
    have hE : shareE t order = ordT t order := by unfold shareE; rw [if_neg h]
    rw [hE, if_neg h]
    exact ⟨rfl, rfl, trivial⟩
abbrev cWaitR0 : Con := { A := (.cons (.sl (.sl .int)) (.cons (.sl .int) .nil)), R := (.cons .int .nil), pre := fun x => okT x.1 ∧ inT x.1 x.2.1 ∧ x.2.1.length ≤ 100, F := fun x => (waitL x.1 x.2.1, ()) }
def cWaitR0_0 (Λ1 : Int → Int → Prop) (Λ2 : Int → Int → Int → Prop) (t : (List (List Int))) (order : (List Int)) (y0 : Int) : Prop :=
  Λ1 (0 : Int) (0 : Int)
def cWaitR0_1 (Λ1 : Int → Int → Prop) (Λ2 : Int → Int → Int → Prop) (t : (List (List Int))) (order : (List Int)) (y0 : Int)  (sum_1 : Int) (g_1 : Int) : Prop :=
  True ∧ (if (decide (g_1 < ((goals8 t : Int)))) = true then Λ2 g_1 sum_1 (0 : Int) else (sum_1 = y0 ∧ True))
def cWaitR0_2 (Λ1 : Int → Int → Prop) (Λ2 : Int → Int → Int → Prop) (t : (List (List Int))) (order : (List Int)) (y0 : Int) (g_1 : Int) (sum_1 : Int) (i_2 : Int) : Prop :=
  if (decide (i_2 < (List.length order : Int))) = true then (idx i_2 (List.length order : Int) ∧ (idx (List.getD order (Int.toNat i_2) 0) (List.length t : Int) ∧ (idx g_1 (List.length (List.getD t (Int.toNat (List.getD order (Int.toNat i_2) 0)) ([] : List Int)) : Int) ∧ (if ((List.getD (List.getD t (Int.toNat (List.getD order (Int.toNat i_2) 0)) ([] : List Int)) (Int.toNat g_1) 0) == (1 : Int)) = true then (inI (i_2 + (1 : Int)) ∧ (inI (sum_1 + (i_2 + (1 : Int))) ∧ (inI (g_1 + (1 : Int)) ∧ Λ1 (sum_1 + (i_2 + (1 : Int))) (g_1 + (1 : Int))))) else (inI (i_2 + (1 : Int)) ∧ Λ2 g_1 sum_1 (i_2 + (1 : Int))))))) else (inI (g_1 + (1 : Int)) ∧ Λ1 sum_1 (g_1 + (1 : Int)))
theorem cWaitR0_law (h : ∀ (t : (List (List Int))) (order : (List Int)), cWaitR0.A.wf (t, order, ()) → (okT t ∧ inT t order ∧ order.length ≤ 100) → ∀ (Λ1 : Int → Int → Prop) (Λ2 : Int → Int → Int → Prop), (∀ (sum_1 : Int) (g_1 : Int), cWaitR0_1 Λ1 Λ2 t order (waitL t order) sum_1 g_1 → Λ1 sum_1 g_1) → (∀ (g_1 : Int) (sum_1 : Int) (i_2 : Int), cWaitR0_2 Λ1 Λ2 t order (waitL t order) g_1 sum_1 i_2 → Λ2 g_1 sum_1 i_2) → cWaitR0_0 Λ1 Λ2 t order (waitL t order)) : ConOK Go.Proofs.Try.prog 97 cWaitR0 := by
  refine lawL (Γ := [(62, cGoals8r)]) (Θ := Th) (n := 36) [([1, 1, 0, 1, 0], ⟨[(0, false), (1, false), (5, true), (6, true)], []⟩), ([1, 1, 0, 1, 0, 0, 1, 0, 0, 1, 0], ⟨[(0, false), (1, false), (5, true), (6, true), (7, true)], []⟩)] ⟨cGoals8r_ok, trivial⟩ (by kernel_rfl) th_ok mix_ok Go.Proofs.Try.func97 (by kernel_rfl) ?_
  intro x hw hp Λ hC
  have h0 := h x.1 x.2.1 hw hp (fun sum_1 g_1 => Λ [1, 1, 0, 1, 0] ([(0, .d false (.sl (.sl .int)) x.1), (1, .d false (.sl .int) x.2.1), (5, .d true .int sum_1), (6, .d true .int g_1)], [])) (fun g_1 sum_1 i_2 => Λ [1, 1, 0, 1, 0, 0, 1, 0, 0, 1, 0] ([(0, .d false (.sl (.sl .int)) x.1), (1, .d false (.sl .int) x.2.1), (5, .d true .int sum_1), (6, .d true .int g_1), (7, .d true .int i_2)], [])) (fun sum_1 g_1 hb => hC [1, 1, 0, 1, 0] ([(0, .d false (.sl (.sl .int)) x.1), (1, .d false (.sl .int) x.2.1), (5, .d true .int sum_1), (6, .d true .int g_1)], []) (Eq.mpr (by kernel_rfl) hb)) (fun g_1 sum_1 i_2 hb => hC [1, 1, 0, 1, 0, 0, 1, 0, 0, 1, 0] ([(0, .d false (.sl (.sl .int)) x.1), (1, .d false (.sl .int) x.2.1), (5, .d true .int sum_1), (6, .d true .int g_1), (7, .d true .int i_2)], []) (Eq.mpr (by kernel_rfl) hb))
  exact Eq.mpr (by kernel_rfl) h0
theorem cWaitR0_ok : ConOK Go.Proofs.Try.prog 97 cWaitR0 := by
  refine cWaitR0_law ?_
  intro t order hw hp Λ1 Λ2 h1 h2
  unfold cWaitR0_0
  obtain ⟨ht, hin, hl⟩ := hp
  have h10 := ht.2.1
  have h8 := ht.1
  refine upto (n := goals8 t) (Q := fun g => Λ1 (waitK t order g) g) ?_ ?_ 0 (Nat.zero_le _)
  · apply h1; unfold cWaitR0_1
    rw [if_neg (by simp), waitK_all]
    exact ⟨trivial, rfl, trivial⟩
  · intro g hg ih
    apply h1; unfold cWaitR0_1
    rw [if_pos (by simpa using hg)]
    refine ⟨trivial, ?_⟩
    have hbd := waitK_bd (t := t) (o := order) g (by omega) hl
    rw [waitK_succ hin] at ih
    refine upto (n := order.length) (Q := fun i => (order.take i).any (fun r => hits t r g) = false → Λ2 (g : Int) (waitK t order g) (i : Int)) ?_ ?_ 0 (Nat.zero_le _) rfl
    · intro ha
      rw [List.take_length] at ha
      apply h2; unfold cWaitR0_2
      rw [if_neg (by simp)]
      have e : waitG t order g = 0 := by unfold waitG; rw [Int.toNat_natCast, idxF_none ha]; rfl
      rw [e, Int.add_zero] at ih
      exact ⟨by unfold inI; omega, ih⟩
    · intro i hi ih2 ha
      apply h2; unfold cWaitR0_2
      rw [if_pos (by simpa using hi), Int.toNat_natCast, Int.toNat_natCast]
      have hr := hin _ (mem_getD (d := 0) hi)
      have hrow := okT_row ht (i := (order.getD i 0).toNat) (by omega)
      refine ⟨idx_nat hi, ⟨hr.1, hr.2⟩, by rw [hrow]; exact idx_nat hg, ?_⟩
      cases hv : hits t (order.getD i 0) g
      · have hv2 : ((t.getD (order.getD i 0).toNat []).getD g 0 == 1) = false := hv
        rw [if_neg (by rw [hv2]; simp)]
        exact ⟨by unfold inI; omega, ih2 (any_take_next (p := fun r => hits t r g) 0 hi ha hv)⟩
      · have hv2 : ((t.getD (order.getD i 0).toNat []).getD g 0 == 1) = true := hv
        rw [if_pos hv2]
        have e : waitG t order g = (i : Int) + 1 := by unfold waitG; rw [Int.toNat_natCast, idxF_at (p := fun r => hits t r g) 0 hi ha hv]
        rw [e] at ih
        exact ⟨by unfold inI; omega, by unfold inI; omega, by unfold inI; omega, ih⟩
abbrev cOrdR : Con := { A := (.cons (.sl (.sl .int)) (.cons (.sl .int) .nil)), R := (.cons .int .nil), pre := fun x => x.2.1.length ≤ 1000000, F := fun x => (ordT x.1 x.2.1, ()) }
def cOrdR_0 (Λ1 : Int → Prop) (t : (List (List Int))) (order : (List Int)) (y0 : Int) : Prop :=
  True ∧ (if ((validT t) != (0 : Int)) = true then ((validT t) = y0 ∧ True) else (if ((List.length order : Int) != (List.length t : Int)) = true then ((1 : Int) = y0 ∧ True) else Λ1 (0 : Int)))
def cOrdR_1 (Λ1 : Int → Prop) (t : (List (List Int))) (order : (List Int)) (y0 : Int)  (r_1 : Int) : Prop :=
  if (decide (r_1 < (List.length t : Int))) = true then (order.length ≤ 1000000 ∧ (if (!(decide (r_1 ∈ order))) = true then ((1 : Int) = y0 ∧ True) else (inI (r_1 + (1 : Int)) ∧ Λ1 (r_1 + (1 : Int))))) else ((0 : Int) = y0 ∧ True)
theorem cOrdR_law (h : ∀ (t : (List (List Int))) (order : (List Int)), cOrdR.A.wf (t, order, ()) → (order.length ≤ 1000000) → ∀ (Λ1 : Int → Prop), (∀ (r_1 : Int), cOrdR_1 Λ1 t order (ordT t order) r_1 → Λ1 r_1) → cOrdR_0 Λ1 t order (ordT t order)) : ConOK Go.Proofs.Try.prog 96 cOrdR := by
  refine lawL (Γ := [(64, cHas8r), (36, cVal8r)]) (Θ := Th) (n := 27) [([1, 1, 1, 1, 0, 1, 0], ⟨[(0, false), (1, false), (6, true)], []⟩)] ⟨cHas8r_ok, cVal8r_ok, trivial⟩ (by kernel_rfl) th_ok mix_ok Go.Proofs.Try.func96 (by kernel_rfl) ?_
  intro x hw hp Λ hC
  have h0 := h x.1 x.2.1 hw hp (fun r_1 => Λ [1, 1, 1, 1, 0, 1, 0] ([(0, .d false (.sl (.sl .int)) x.1), (1, .d false (.sl .int) x.2.1), (6, .d true .int r_1)], [])) (fun r_1 hb => hC [1, 1, 1, 1, 0, 1, 0] ([(0, .d false (.sl (.sl .int)) x.1), (1, .d false (.sl .int) x.2.1), (6, .d true .int r_1)], []) (Eq.mpr (by kernel_rfl) hb))
  exact Eq.mpr (by kernel_rfl) h0
theorem cOrdR_ok : ConOK Go.Proofs.Try.prog 96 cOrdR := by
  refine cOrdR_law ?_
  intro t order hw hp Λ1 h1
  unfold cOrdR_0
  refine ⟨trivial, ?_⟩
  by_cases h0 : validT t = 0
  · rw [if_neg (by simp [h0])]
    have ht := validT_ok.1 h0
    have h8 := ht.1
    have hE : ordT t order = argErr (decide (sortL order = nums t.length)) := by unfold ordT; rw [if_pos h0]
    by_cases hl : order.length = t.length
    · rw [if_neg (by simp [hl])]
      refine upto (n := t.length) (Q := fun r => (∀ x : Nat, x < r → (x : Int) ∈ order) → Λ1 (r : Int)) ?_ ?_ 0 (Nat.zero_le _) (fun x hx => absurd hx (by omega))
      · intro ha
        apply h1; unfold cOrdR_1
        rw [if_neg (by simp)]
        have hpm : order.Perm (nums t.length) := perm_of_sub _ _ (nums_nodup _) (fun x hx => by
          have := nums_mem.1 hx
          have := ha x.toNat (by omega)
          rwa [show (x.toNat : Int) = x by omega] at this) (by rw [hl, nums_len])
        exact ⟨(ordT_perm h0 hpm).symm, trivial⟩
      · intro r hr ih ha
        apply h1; unfold cOrdR_1
        rw [if_pos (by simpa using hr)]
        refine ⟨hp, ?_⟩
        by_cases hm : (r : Int) ∈ order
        · rw [if_neg (by simp [hm])]
          exact ⟨by unfold inI; omega, ih fun x hx => by
            by_cases e : x = r
            · rw [e]; exact hm
            · exact ha x (by omega)⟩
        · rw [if_pos (by simp [hm])]
          refine ⟨?_, trivial⟩
          rw [hE]
          have : ¬ sortL order = nums t.length := fun e => hm ((sortL_perm order).mem_iff.1 (by rw [e]; exact nums_mem.2 ⟨by omega, by omega⟩))
          rw [decide_eq_false this]; rfl
    · rw [if_pos (by simp; omega)]
      refine ⟨?_, trivial⟩
      rw [hE]
      have : ¬ sortL order = nums t.length := fun e => hl (by rw [← sortL_len order, e, nums_len])
      rw [decide_eq_false this]; rfl
  · rw [if_pos (by simp [h0])]
    refine ⟨?_, trivial⟩
    unfold ordT; rw [if_neg h0]
abbrev cWaitR : Con := { A := (.cons (.sl (.sl .int)) (.cons (.sl .int) .nil)), R := (.cons .int (.cons .int .nil)), pre := fun x => x.2.1.length ≤ 1000000, F := fun x => ((if ordT x.1 x.2.1 = 0 then waitL x.1 x.2.1 else 0), ordT x.1 x.2.1, ()) }
def cWaitR_0  (t : (List (List Int))) (order : (List Int)) (y0 : Int) (y1 : Int) : Prop :=
  order.length ≤ 1000000 ∧ (if ((ordT t order) != (0 : Int)) = true then ((0 : Int) = y0 ∧ (ordT t order) = y1 ∧ True) else ((okT t ∧ inT t order ∧ order.length ≤ 100) ∧ ((waitL t order) = y0 ∧ (0 : Int) = y1 ∧ True)))
theorem cWaitR_law (h : ∀ (t : (List (List Int))) (order : (List Int)), cWaitR.A.wf (t, order, ()) → (order.length ≤ 1000000) → cWaitR_0  t order (if ordT t order = 0 then waitL t order else 0) (ordT t order)) : ConOK Go.Proofs.Try.prog 50 cWaitR := by
  refine lawL (Γ := [(96, cOrdR), (97, cWaitR0)]) (Θ := Th) (n := 16) [] ⟨cOrdR_ok, cWaitR0_ok, trivial⟩ (by kernel_rfl) th_ok mix_ok Go.Proofs.Try.func50 (by kernel_rfl) ?_
  intro x hw hp Λ hC
  have h0 := h x.1 x.2.1 hw hp  
  exact Eq.mpr (by kernel_rfl) h0
theorem cWaitR_ok : ConOK Go.Proofs.Try.prog 50 cWaitR := by
  refine cWaitR_law ?_
  intro t order hw hp
  unfold cWaitR_0
  refine ⟨hp, ?_⟩
  by_cases h : ordT t order = 0
  · rw [if_neg (by simp [h]), if_pos h, h]
    obtain ⟨ht, hin, hl, hpm⟩ := ordT_ok h
    have h8 := ht.1
    exact ⟨⟨ht, hin, by omega⟩, rfl, rfl, trivial⟩
  · rw [if_pos (by simp [h]), if_neg h]
    exact ⟨rfl, rfl, trivial⟩
abbrev cShareR : Con := { A := (.cons (.sl (.sl .int)) (.cons (.sl .int) .nil)), R := (.cons tRa (.cons .int .nil)), pre := fun x => x.2.1.length ≤ 1000000, F := fun x => ((if shareE x.1 x.2.1 = 0 then ((shareT x.1 x.2.1).1, (shareT x.1 x.2.1).2, ()) else (0, 0, ())), shareE x.1 x.2.1, ()) }
def cShareR_0 (Λ1 : Int → Int → Prop) (t : (List (List Int))) (order : (List Int)) (y0 : Rtl) (y1 : Int) : Prop :=
  order.length ≤ 1000000 ∧ (if ((ordT t order) != (0 : Int)) = true then ((0, 0, ()) = y0 ∧ (ordT t order) = y1 ∧ True) else (okT t ∧ (if ((List.length (openL t) : Int) == (0 : Int)) = true then ((0, 0, ()) = y0 ∧ (4 : Int) = y1 ∧ True) else ((okT t ∧ inT t order ∧ order.length ≤ 100) ∧ (inI ((List.length t : Int) * (List.length (openL t) : Int)) ∧ Λ1 (waitL t order) ((List.length t : Int) * (List.length (openL t) : Int)))))))
def cShareR_1 (Λ1 : Int → Int → Prop) (t : (List (List Int))) (order : (List Int)) (y0 : Rtl) (y1 : Int)  (a_1 : Int) (b_1 : Int) : Prop :=
  if (b_1 != (0 : Int)) = true then ((b_1 ≠ 0 ∧ inI (Int.tmod a_1 b_1)) ∧ Λ1 b_1 (Int.tmod a_1 b_1)) else ((a_1 ≠ 0 ∧ inI (Int.tdiv (waitL t order) a_1)) ∧ ((a_1 ≠ 0 ∧ inI (Int.tdiv ((List.length t : Int) * (List.length (openL t) : Int)) a_1)) ∧ (((Int.tdiv (waitL t order) a_1), (Int.tdiv ((List.length t : Int) * (List.length (openL t) : Int)) a_1), ()) = y0 ∧ (0 : Int) = y1 ∧ True)))
theorem cShareR_law (h : ∀ (t : (List (List Int))) (order : (List Int)), cShareR.A.wf (t, order, ()) → (order.length ≤ 1000000) → ∀ (Λ1 : Int → Int → Prop), (∀ (a_1 : Int) (b_1 : Int), cShareR_1 Λ1 t order (if shareE t order = 0 then ((shareT t order).1, (shareT t order).2, ()) else (0, 0, ())) (shareE t order) a_1 b_1 → Λ1 a_1 b_1) → cShareR_0 Λ1 t order (if shareE t order = 0 then ((shareT t order).1, (shareT t order).2, ()) else (0, 0, ())) (shareE t order)) : ConOK Go.Proofs.Try.prog 52 cShareR := by
  refine lawL (Γ := [(61, cOpen8r), (96, cOrdR), (97, cWaitR0)]) (Θ := Th) (n := 49) [([1, 1, 1, 1, 1, 1, 1, 0, 0], ⟨[(4, true), (8, true), (9, true), (10, true), (11, true)], [(4, true)]⟩)] ⟨cOpen8r_ok, cOrdR_ok, cWaitR0_ok, trivial⟩ (by kernel_rfl) th_ok mix_ok Go.Proofs.Try.func52 (by kernel_rfl) ?_
  intro x hw hp Λ hC
  have h0 := h x.1 x.2.1 hw hp (fun a_1 b_1 => Λ [1, 1, 1, 1, 1, 1, 1, 0, 0] ([(4, .ptr 4 0 []), (8, .d true .int (waitL x.1 x.2.1)), (9, .d true .int ((List.length x.1 : Int) * (List.length (openL x.1) : Int))), (10, .d true .int a_1), (11, .d true .int b_1)], [(4, .box true tRa tRa.dflt)])) (fun a_1 b_1 hb => hC [1, 1, 1, 1, 1, 1, 1, 0, 0] ([(4, .ptr 4 0 []), (8, .d true .int (waitL x.1 x.2.1)), (9, .d true .int ((List.length x.1 : Int) * (List.length (openL x.1) : Int))), (10, .d true .int a_1), (11, .d true .int b_1)], [(4, .box true tRa tRa.dflt)]) (Eq.mpr (by kernel_rfl) hb))
  exact Eq.mpr (by kernel_rfl) h0
theorem cShareR_ok : ConOK Go.Proofs.Try.prog 52 cShareR := by
  refine cShareR_law ?_
  intro t order hw hp Λ1 h1
  unfold cShareR_0
  refine ⟨hp, ?_⟩
  by_cases h : ordT t order = 0
  · rw [if_neg (by simp [h])]
    obtain ⟨ht, hin, hl, hpm⟩ := ordT_ok h
    have h8 := ht.1
    have hw8 := wait_bd ht (o := order) (by omega)
    have hol := openL_len t
    have h10 := ht.2.1
    have hmany : (t.length : Int) * ((openL t).length : Int) = (manyT t : Int) := by unfold manyT; simp
    have hm80 : manyT t ≤ 8 * 10 := Nat.mul_le_mul h8 (by omega)
    rw [hmany]
    refine ⟨ht, ?_⟩
    have hE : shareE t order = if manyT t = 0 then 4 else 0 := by unfold shareE; rw [if_pos h]
    have hzz : manyT t = 0 ↔ (openL t).length = 0 := by
      constructor
      · intro e
        unfold manyT at e
        rcases Nat.mul_eq_zero.1 e with e | e
        · have : t = [] := List.length_eq_zero_iff.1 e
          subst this
          have h2 : goals8 ([] : Ste) = 0 := rfl
          omega
        · exact e
      · intro e
        unfold manyT
        rw [e]; simp
    by_cases hz : (openL t).length = 0
    · rw [if_pos (by simp [hz]), hE, if_pos (hzz.2 hz)]
      exact ⟨rfl, rfl, trivial⟩
    · rw [if_neg (by simpa using hz)]
      have hz := mt hzz.1 hz
      rw [hE, if_neg hz] at h1
      refine ⟨⟨ht, hin, by omega⟩, by unfold inI; omega, ?_⟩
      have ew : waitL t order = ((waitL t order).toNat : Int) := by omega
      have hg : 0 < Nat.gcd (waitL t order).toNat (manyT t) := Nat.gcd_pos_of_pos_right _ (by omega)
      have hlast : Λ1 ((Nat.gcd (waitL t order).toNat (manyT t) : Nat) : Int) 0 := by
        apply h1; unfold cShareR_1
        rw [if_neg (by simp), hmany]
        generalize hG : Nat.gcd (waitL t order).toNat (manyT t) = g at hg ⊢
        have hx := Nat.div_le_self (waitL t order).toNat g
        have hy := Nat.div_le_self (manyT t) g
        have e1 : Int.tdiv (waitL t order) (g : Int) = (((waitL t order).toNat / g : Nat) : Int) := by rw [ew, Int.toNat_natCast]; exact tdiv_nat _ _
        rw [e1, tdiv_nat]
        have hS : shareT t order = ((((waitL t order).toNat / g : Nat) : Int), ((manyT t / g : Nat) : Int)) := by unfold shareT; rw [hG]
        rw [hS]
        clear e1 hS
        generalize (waitL t order).toNat / g = q1 at hx ⊢
        generalize manyT t / g = q2 at hy ⊢
        exact ⟨⟨by omega, by unfold inI; omega⟩, ⟨by omega, by unfold inI; omega⟩, by simp, rfl, trivial⟩
      have := gcd_loop (Λ := Λ1) (w := (waitL t order).toNat) (m := manyT t) (by omega) hlast (fun a b hb0 hbm ih => by
        apply h1; unfold cShareR_1
        rw [if_pos (by simp; omega)]
        have := Nat.mod_lt a hb0
        rw [tmod_nat]
        exact ⟨⟨by omega, by unfold inI; omega⟩, ih⟩)
      rw [← ew] at this
      exact this
  · rw [if_pos (by simp [h])]
    have hE : shareE t order = ordT t order := by unfold shareE; rw [if_neg h]
    rw [hE, if_neg h]
    exact ⟨rfl, rfl, trivial⟩
abbrev cWaitsL : Con := { A := (.cons (.sl (.sl .int)) (.cons (.sl .int) .nil)), R := (.cons .bool .nil), pre := fun x => True, F := fun x => (true, ()) }
def cWaitsL_0  (t : (List (List Int))) (order : (List Int)) (y0 : Bool) : Prop :=
  True ∧ (if (longT t) = true then (true = true ∧ (True ∧ (true = y0 ∧ True))) else (True ∧ (if (bif false then true else (decide ((List.length order : Int) > (50 : Int)))) = true then (True ∧ (true = y0 ∧ True)) else (order.length ≤ 1000000 ∧ (order.length ≤ 1000000 ∧ (order.length ≤ 1000000 ∧ (order.length ≤ 1000000 ∧ (if (((if ordT t order = 0 then waitL t order else 0)) != ((if ordT t order = 0 then waitL t order else 0))) = true then (true = true ∧ (true = true ∧ (true = true ∧ (false = y0 ∧ True)))) else (True ∧ (if (bif false then true else ((ordT t order) != (ordT t order))) = true then (true = true ∧ (true = true ∧ (false = y0 ∧ True))) else (True ∧ (if (bif false then true else (!(T.eqB tRa ((if shareE t order = 0 then ((shareT t order).1, (shareT t order).2, ()) else (0, 0, ()))) ((if shareE t order = 0 then ((shareT t order).1, (shareT t order).2, ()) else (0, 0, ())))))) = true then (true = true ∧ (false = y0 ∧ True)) else (True ∧ (if (bif false then true else ((shareE t order) != (shareE t order))) = true then (false = y0 ∧ True) else (if ((ordT t order) != (0 : Int)) = true then (True ∧ (true = y0 ∧ True)) else (True ∧ (if ((validT t) == (0 : Int)) = true then (True ∧ (if (bif true then (decide (((if validT t = 0 then (bestT t).2 else 0)) ≤ ((if ordT t order = 0 then waitL t order else 0)))) else false) = true then (if ((shareE t order) != (0 : Int)) = true then (true = true ∧ (True ∧ (if (bif true then true else false) = true then (True ∧ (True ∧ ((bif true then true else false) = y0 ∧ True))) else (false = false ∧ (false = y0 ∧ True))))) else (if (decide (((if shareE t order = 0 then ((shareT t order).1, (shareT t order).2, ()) else (0, 0, ()))).2.1 ≥ (1 : Int))) = true then (True ∧ (if (bif true then (decide (((if shareE t order = 0 then ((shareT t order).1, (shareT t order).2, ()) else (0, 0, ()))).1 ≥ (1 : Int))) else false) = true then (True ∧ (True ∧ (True ∧ (if (bif true then (bif false then true else (bif true then (decide (((if shareE t order = 0 then ((shareT t order).1, (shareT t order).2, ()) else (0, 0, ()))).1 ≤ ((if shareE t order = 0 then ((shareT t order).1, (shareT t order).2, ()) else (0, 0, ()))).2.1)) else false)) else false) = true then (True ∧ (True ∧ ((bif true then true else false) = y0 ∧ True))) else (false = false ∧ (false = y0 ∧ True)))))) else (false = false ∧ (True ∧ (True ∧ (if (bif true then (bif false then true else false) else false) = true then (True ∧ (True ∧ ((bif true then true else false) = y0 ∧ True))) else (false = false ∧ (false = y0 ∧ True)))))))) else (false = false ∧ (false = false ∧ (True ∧ (True ∧ (if (bif true then (bif false then true else false) else false) = true then (True ∧ (True ∧ ((bif true then true else false) = y0 ∧ True))) else (false = false ∧ (false = y0 ∧ True))))))))) else (false = false ∧ (false = false ∧ (false = y0 ∧ True))))) else (false = false ∧ (false = false ∧ (false = false ∧ (false = y0 ∧ True)))))))))))))))))))))
theorem cWaitsL_law (h : ∀ (t : (List (List Int))) (order : (List Int)), cWaitsL.A.wf (t, order, ()) → cWaitsL_0  t order true) : ConOK Go.Proofs.Try.prog 14 cWaitsL := by
  refine lawL (Γ := [(43, cBest), (17, cLong8), (18, cSane8), (52, cShareR), (51, cShareS), (50, cWaitR), (45, cWaitS)]) (Θ := Th) (n := 106) [] ⟨cBest_ok, cLong8_ok, cSane8_ok, cShareR_ok, cShareS_ok, cWaitR_ok, cWaitS_ok, trivial⟩ (by kernel_rfl) th_ok mix_ok Go.Proofs.Try.func14 (by kernel_rfl) ?_
  intro x hw hp Λ hC
  have h0 := h x.1 x.2.1 hw  
  exact Eq.mpr (by kernel_rfl) h0
theorem cWaitsL_ok : ConOK Go.Proofs.Try.prog 14 cWaitsL := by
  refine cWaitsL_law ?_
  intro t order hw
  unfold cWaitsL_0
  refine ⟨trivial, ?_⟩
  cases hL : longT t
  · rw [if_neg (by simp)]
    refine ⟨trivial, ?_⟩
    by_cases hl : order.length > 50
    · rw [if_pos (by simp; omega)]
      exact ⟨trivial, rfl, trivial⟩
    · rw [if_neg (by simp; omega)]
      refine ⟨by omega, by omega, by omega, by omega, ?_⟩
      have hrf : ∀ x : tRa.den, T.eqB tRa x x = true := fun x => (eqB_iff rfl).2 rfl
      by_cases h : ordT t order = 0
      · obtain ⟨ht, hin, hln, hpm⟩ := ordT_ok h
        have h0 := validT_ok.2 ht
        have hb := bestT_least hpm
        have hE : shareE t order = if manyT t = 0 then 4 else 0 := by unfold shareE; rw [if_pos h]
        by_cases hz : manyT t = 0
        · simp [h, h0, hE, hz, hb, hrf]
        · obtain ⟨s1, s2, s3⟩ := share_law hpm hz
          simp [h, h0, hE, hz, hb, s1, s2, s3, hrf]
      · simp [h, hrf]
  · rw [if_pos rfl]
    exact ⟨rfl, trivial, rfl, trivial⟩
end Go.Tk
