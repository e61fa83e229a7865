import Derived.Test.YthjkkjnnkkekeaaP7n
set_option linter.unusedSimpArgs false
set_option linter.unusedVariables false
set_option linter.unnecessarySimpa false
namespace Go.Tk
open Go Go.RowKit

abbrev cNeedsG : Con := { A := (.cons (.sl (.sl tEd)) (.cons .int .nil)), R := (.cons (.osl .int) .nil), pre := fun x => 0 ≤ x.2.1 ∧ x.2.1 < (x.1.length : Int) ∧ x.1.length ≤ 8, F := fun x => (needsL x.1 (Int.toNat x.2.1), ()) }
def cNeedsG_0 (Λ1 : (List Bool) → (List Int) → Prop) (Λ2 : (List Bool) → Int → (List Int) → Prop) (h : (List (List Edt))) (n : Int) (y0 : (List Int)) : Prop :=
  mkLen (List.length h : Int) (List.length h : Int) ∧ ((0 ≤ n ∧ n < (h.length : Int) ∧ h.length ≤ 8) ∧ Λ1 (List.replicate (Int.toNat (List.length h : Int)) false) (dirTo h n (Int.toNat n)))
def cNeedsG_1 (Λ1 : (List Bool) → (List Int) → Prop) (Λ2 : (List Bool) → Int → (List Int) → Prop) (h : (List (List Edt))) (n : Int) (y0 : (List Int))  (there_1 : (List Bool)) (open_1 : (List Int)) : Prop :=
  if (decide ((List.length open_1 : Int) > (0 : Int))) = true then (idx (0 : Int) (List.length open_1 : Int) ∧ ((0 ≤ (1 : Int) ∧ (1 : Int) ≤ (List.length open_1 : Int) ∧ (List.length open_1 : Int) ≤ (List.length open_1 : Int) ∧ (List.length open_1 : Int) ≤ (List.length open_1 : Int)) ∧ (idx (List.getD open_1 (Int.toNat (0 : Int)) 0) (List.length there_1 : Int) ∧ (if (!(List.getD there_1 (Int.toNat (List.getD open_1 (Int.toNat (0 : Int)) 0)) false)) = true then (idx (List.getD open_1 (Int.toNat (0 : Int)) 0) (List.length there_1 : Int) ∧ ((0 ≤ (List.getD open_1 (Int.toNat (0 : Int)) 0) ∧ (List.getD open_1 (Int.toNat (0 : Int)) 0) < (h.length : Int) ∧ h.length ≤ 8) ∧ (List.length (List.drop (Int.toNat (1 : Int)) (List.take (Int.toNat (List.length open_1 : Int)) open_1)) + List.length (dirTo h (List.getD open_1 (Int.toNat (0 : Int)) 0) (Int.toNat (List.getD open_1 (Int.toNat (0 : Int)) 0))) ≤ 4294967296 ∧ Λ1 (List.set there_1 (Int.toNat (List.getD open_1 (Int.toNat (0 : Int)) 0)) true) ((List.drop (Int.toNat (1 : Int)) (List.take (Int.toNat (List.length open_1 : Int)) open_1)) ++ (dirTo h (List.getD open_1 (Int.toNat (0 : Int)) 0) (Int.toNat (List.getD open_1 (Int.toNat (0 : Int)) 0))))))) else Λ1 there_1 (List.drop (Int.toNat (1 : Int)) (List.take (Int.toNat (List.length open_1 : Int)) open_1)))))) else Λ2 there_1 (0 : Int) ([] : List Int)
def cNeedsG_2 (Λ1 : (List Bool) → (List Int) → Prop) (Λ2 : (List Bool) → Int → (List Int) → Prop) (h : (List (List Edt))) (n : Int) (y0 : (List Int)) (there_1 : (List Bool)) (t43_2 : Int) (out_2 : (List Int)) : Prop :=
  if (decide (t43_2 < (List.length there_1 : Int))) = true then (idx t43_2 (List.length there_1 : Int) ∧ (if (List.getD there_1 (Int.toNat t43_2) false) = true then (List.length out_2 + List.length [t43_2] ≤ 4294967296 ∧ (inI (t43_2 + (1 : Int)) ∧ Λ2 there_1 (t43_2 + (1 : Int)) (out_2 ++ [t43_2]))) else (inI (t43_2 + (1 : Int)) ∧ Λ2 there_1 (t43_2 + (1 : Int)) out_2))) else out_2 = y0
theorem cNeedsG_law (h : ∀ (h : (List (List Edt))) (n : Int), cNeedsG.A.wf (h, n, ()) → (0 ≤ n ∧ n < (h.length : Int) ∧ h.length ≤ 8) → ∀ (Λ1 : (List Bool) → (List Int) → Prop) (Λ2 : (List Bool) → Int → (List Int) → Prop), (∀ (there_1 : (List Bool)) (open_1 : (List Int)), cNeedsG_1 Λ1 Λ2 h n (needsL h (Int.toNat n)) there_1 open_1 → Λ1 there_1 open_1) → (∀ (there_1 : (List Bool)) (t43_2 : Int) (out_2 : (List Int)), cNeedsG_2 Λ1 Λ2 h n (needsL h (Int.toNat n)) there_1 t43_2 out_2 → Λ2 there_1 t43_2 out_2) → cNeedsG_0 Λ1 Λ2 h n (needsL h (Int.toNat n))) : ConOK Go.Proofs.Try.prog 59 cNeedsG := by
  refine lawL (Γ := [(67, cDirect0)]) (Θ := Th) (n := 55) [([1, 1, 1, 1, 0, 0], ⟨[(5, true), (6, true), (7, true)], [(16, true), (19, true)]⟩), ([1, 1, 1, 1, 1, 1, 0, 1, 0], ⟨[(9, true), (41, true), (42, true), (43, true)], [(9, true), (16, true)]⟩)] ⟨cDirect0_ok, trivial⟩ (by kernel_rfl) th_ok mix_ok Go.Proofs.Try.func59 (by kernel_rfl) ?_
  intro x hw hp Λ hC
  have h0 := h x.1 x.2.1 hw hp (fun there_1 open_1 => Λ [1, 1, 1, 1, 0, 0] ([(5, .bnd 67 (.cons (.sl (.sl tEd)) .nil) (x.1, ())), (6, .own 16 0), (7, .own 19 0)], [(16, .sl true .bool there_1), (19, .sl true .int open_1)])) (fun there_1 t43_2 out_2 => Λ [1, 1, 1, 1, 1, 1, 0, 1, 0] ([(9, .own 9 0), (41, .own 16 0), (42, .d true .int (List.length there_1 : Int)), (43, .d true .int t43_2)], [(9, .sl true .int out_2), (16, .sl true .bool there_1)])) (fun there_1 open_1 hb => hC [1, 1, 1, 1, 0, 0] ([(5, .bnd 67 (.cons (.sl (.sl tEd)) .nil) (x.1, ())), (6, .own 16 0), (7, .own 19 0)], [(16, .sl true .bool there_1), (19, .sl true .int open_1)]) (Eq.mpr (by kernel_rfl) hb)) (fun there_1 t43_2 out_2 hb => hC [1, 1, 1, 1, 1, 1, 0, 1, 0] ([(9, .own 9 0), (41, .own 16 0), (42, .d true .int (List.length there_1 : Int)), (43, .d true .int t43_2)], [(9, .sl true .int out_2), (16, .sl true .bool there_1)]) (Eq.mpr (by kernel_rfl) hb))
  exact Eq.mpr (by kernel_rfl) h0
theorem cNeedsG_ok : ConOK Go.Proofs.Try.prog 59 cNeedsG := by
  refine cNeedsG_law ?_
  intro h n hw hp Λ1 Λ2 h1 h2
  unfold cNeedsG_0
  obtain ⟨p1, p2, p3⟩ := hp
  obtain ⟨N, rfl⟩ := Int.eq_ofNat_of_zero_le p1
  have e2 : ∀ L : List Bool, L.length = h.length → (∀ k, L.getD k false = need h N k) → Λ2 L 0 [] := by
    intro L hL hy
    refine upto (n := h.length) (Q := fun i => Λ2 L (i : Int) (selTo (need h N) i)) ?_ ?_ 0 (Nat.zero_le _)
    · apply h2; unfold cNeedsG_2; rw [if_neg (by rw [hL]; simp)]; rfl
    · intro i hi ih
      have hle := selTo_len (need h N) i
      rw [show selTo (need h N) (i + 1) = selTo (need h N) i ++ if need h N i = true then [(i : Int)] else [] from rfl] at ih
      apply h2; unfold cNeedsG_2; rw [if_pos (by rw [hL]; simp; omega), Int.toNat_natCast, hy i]
      refine ⟨⟨by omega, by omega⟩, ?_⟩
      by_cases g : need h N i = true
      · rw [if_pos g] at ih ⊢
        exact ⟨by simp only [List.length_cons, List.length_nil]; omega, inI_succ hi (by omega), ih⟩
      · rw [if_neg g, List.append_nil] at ih
        rw [if_neg g]
        exact ⟨inI_succ hi (by omega), ih⟩
  have e1 : ∀ m (L : List Bool) (o : List Int), Srch h N L o → offs L * 100 + o.length ≤ m → m ≤ 900 → Λ1 L o := by
    intro m
    induction m with
    | zero =>
      intro L o s hm h9
      cases o with
      | nil => apply h1; unfold cNeedsG_1; rw [if_neg (by simp)]; exact e2 L s.len s.done
      | cons x o => simp only [List.length_cons] at hm; omega
    | succ m ih =>
      intro L o s hm h9
      cases o with
      | nil => apply h1; unfold cNeedsG_1; rw [if_neg (by simp)]; exact e2 L s.len s.done
      | cons x o =>
        obtain ⟨j, rfl, hj⟩ := s.mem x (List.mem_cons_self ..)
        have hjN := need_lt hj
        have hjl : j < L.length := by rw [s.len]; omega
        simp only [List.length_cons] at hm
        apply h1; unfold cNeedsG_1
        have a1 : List.getD ((j : Int) :: o) (Int.toNat 0) 0 = (j : Int) := rfl
        have a2 : List.drop (Int.toNat 1) (List.take (Int.toNat (((j : Int) :: o).length : Int)) ((j : Int) :: o)) = o := by rw [Int.toNat_natCast, List.take_length]; rfl
        have dl : (dirTo h (j : Int) j).length ≤ j := by rw [dirTo_sel]; exact selTo_len _ j
        rw [a1, a2, Int.toNat_natCast, if_pos (by simp)]
        refine ⟨⟨by omega, by simp⟩, ⟨by omega, by simp; omega, by omega, by omega⟩, ⟨by omega, by omega⟩, ?_⟩
        cases hv : L.getD j false
        · rw [if_pos (by rfl)]
          have so := offs_set hjl hv
          exact ⟨⟨by omega, by omega⟩, ⟨by omega, by omega, p3⟩, by omega, ih _ _ (s.new (by omega)) (by rw [List.length_append]; omega) (by omega)⟩
        · rw [if_neg (by simp)]
          exact ih _ _ (s.old hv) (by omega) (by omega)
  have dl : (dirTo h (N : Int) N).length ≤ N := by rw [dirTo_sel]; exact selTo_len _ N
  refine ⟨by unfold mkLen; omega, ⟨by omega, p2, p3⟩, ?_⟩
  rw [Int.toNat_natCast, Int.toNat_natCast]
  have ol := offs_le (List.replicate h.length false)
  rw [List.length_replicate] at ol
  exact e1 (offs (List.replicate h.length false) * 100 + (dirTo h (N : Int) N).length) _ _ Srch.start (Nat.le_refl _) (by omega)
abbrev cNeededG : Con := { A := (.cons (.sl (.sl tEd)) (.cons .int .nil)), R := (.cons (.osl .int) .nil), pre := fun x => 0 ≤ x.2.1 ∧ x.2.1 < (x.1.length : Int) ∧ x.1.length ≤ 8, F := fun x => (neededL x.1 (Int.toNat x.2.1), ()) }
def cNeededG_0 (Λ1 : Int → (List Int) → Prop) (h : (List (List Edt))) (n : Int) (y0 : (List Int)) : Prop :=
  inI (n + (1 : Int)) ∧ Λ1 (n + (1 : Int)) ([] : List Int)
def cNeededG_1 (Λ1 : Int → (List Int) → Prop) (h : (List (List Edt))) (n : Int) (y0 : (List Int))  (k_1 : Int) (out_1 : (List Int)) : Prop :=
  if (decide (k_1 < (List.length h : Int))) = true then ((0 ≤ k_1 ∧ k_1 < (h.length : Int) ∧ h.length ≤ 8) ∧ (True ∧ (if (decide (n ∈ (needsL h (Int.toNat k_1)))) = true then (List.length out_1 + List.length [k_1] ≤ 4294967296 ∧ (inI (k_1 + (1 : Int)) ∧ Λ1 (k_1 + (1 : Int)) (out_1 ++ [k_1]))) else (inI (k_1 + (1 : Int)) ∧ Λ1 (k_1 + (1 : Int)) out_1)))) else out_1 = y0
theorem cNeededG_law (h : ∀ (h : (List (List Edt))) (n : Int), cNeededG.A.wf (h, n, ()) → (0 ≤ n ∧ n < (h.length : Int) ∧ h.length ≤ 8) → ∀ (Λ1 : Int → (List Int) → Prop), (∀ (k_1 : Int) (out_1 : (List Int)), cNeededG_1 Λ1 h n (neededL h (Int.toNat n)) k_1 out_1 → Λ1 k_1 out_1) → cNeededG_0 Λ1 h n (neededL h (Int.toNat n))) : ConOK Go.Proofs.Try.prog 60 cNeededG := by
  refine lawL (Γ := [(63, cContN), (59, cNeedsG)]) (Θ := Th) (n := 25) [([1, 1, 0, 1, 0], ⟨[(0, false), (1, false), (5, true), (6, true)], [(5, true)]⟩)] ⟨cContN_ok, cNeedsG_ok, trivial⟩ (by kernel_rfl) th_ok mix_ok Go.Proofs.Try.func60 (by kernel_rfl) ?_
  intro x hw hp Λ hC
  have h0 := h x.1 x.2.1 hw hp (fun k_1 out_1 => Λ [1, 1, 0, 1, 0] ([(0, .d false (.sl (.sl tEd)) x.1), (1, .d false .int x.2.1), (5, .own 5 0), (6, .d true .int k_1)], [(5, .sl true .int out_1)])) (fun k_1 out_1 hb => hC [1, 1, 0, 1, 0] ([(0, .d false (.sl (.sl tEd)) x.1), (1, .d false .int x.2.1), (5, .own 5 0), (6, .d true .int k_1)], [(5, .sl true .int out_1)]) (Eq.mpr (by kernel_rfl) hb))
  exact Eq.mpr (by kernel_rfl) h0
theorem cNeededG_ok : ConOK Go.Proofs.Try.prog 60 cNeededG := by
  refine cNeededG_law ?_
  intro h n hw hp Λ1 h1
  unfold cNeededG_0
  obtain ⟨p1, p2, p3⟩ := hp
  obtain ⟨N, rfl⟩ := Int.eq_ofNat_of_zero_le p1
  refine ⟨by unfold inI; omega, ?_⟩
  have key := upto (n := h.length) (Q := fun i => N < i → Λ1 (i : Int) (selTo (fun k => need h k N) i)) ?_ ?_ (N + 1) (by omega) (by omega)
  · rw [selTo_none (n := N + 1) (by
      intro k hk
      cases e : need h k N
      · rfl
      · have := need_lt e; omega)] at key
    exact key
  · intro _
    apply h1; unfold cNeededG_1; rw [if_neg (by simp)]; rfl
  · intro i hi ih hN
    have ih := ih (by omega)
    have hle := selTo_len (fun k => need h k N) i
    rw [show selTo (fun k => need h k N) (i + 1) = selTo (fun k => need h k N) i ++ if need h i N = true then [(i : Int)] else [] from rfl] at ih
    apply h1; unfold cNeededG_1; rw [if_pos (by simpa using hi), Int.toNat_natCast]
    refine ⟨⟨by omega, by omega, p3⟩, trivial, ?_⟩
    have hh := needsL_has (h := h) (n := i) (k := N) hi
    by_cases g : need h i N = true
    · rw [if_pos g] at ih
      rw [if_pos (by simpa using hh.2 g)]
      exact ⟨by simp only [List.length_cons, List.length_nil]; omega, inI_succ hi (by omega), ih⟩
    · rw [if_neg g, List.append_nil] at ih
      rw [if_neg (by simpa using fun q => g (hh.1 q))]
      exact ⟨inI_succ hi (by omega), ih⟩
abbrev cNumbG : Con := { A := (.cons (.sl tL) (.cons (.sl (.sl tEd)) (.cons .int .nil))), R := (.cons .int .nil), pre := fun x => True, F := fun x => (nE x.1 x.2.1 x.2.2.1, ()) }
def cNumbG_0  (p : (List Lin)) (h : (List (List Edt))) (n : Int) (y0 : Int) : Prop :=
  True ∧ (if ((err7 p h) != (0 : Int)) = true then ((err7 p h) = y0 ∧ True) else (inI ((List.length h : Int) - (1 : Int)) ∧ (True ∧ (if (!(within n (0 : Int) ((List.length h : Int) - (1 : Int)))) = true then ((4 : Int) = y0 ∧ True) else ((0 : Int) = y0 ∧ True)))))
theorem cNumbG_law (h : ∀ (p : (List Lin)) (h : (List (List Edt))) (n : Int), cNumbG.A.wf (p, h, n, ()) → cNumbG_0  p h n (nE p h n)) : ConOK Go.Proofs.Try.prog 58 cNumbG := by
  refine lawL (Γ := [(32, cVal7), (71, cWithin7)]) (Θ := Th) (n := 20) [] ⟨cVal7_ok, cWithin7_ok, trivial⟩ (by kernel_rfl) th_ok mix_ok Go.Proofs.Try.func58 (by kernel_rfl) ?_
  intro x hw hp Λ hC
  have h0 := h x.1 x.2.1 x.2.2.1 hw  
  exact Eq.mpr (by kernel_rfl) h0
theorem cNumbG_ok : ConOK Go.Proofs.Try.prog 58 cNumbG := by
  refine cNumbG_law ?_
  intro p h n hw
  unfold cNumbG_0
  refine ⟨trivial, ?_⟩
  unfold nE
  by_cases e : err7 p h = 0
  · rw [if_neg (by simp [e]), if_pos e]
    obtain ⟨e1, e2, e3, e4⟩ := err7_ok e
    refine ⟨by unfold inI; omega, trivial, ?_⟩
    by_cases w : within n 0 ((h.length : Int) - 1) = true
    · rw [if_neg (by simp [w]), if_pos w]; exact ⟨rfl, trivial⟩
    · rw [if_pos (by simpa using w), if_neg w]; exact ⟨rfl, trivial⟩
  · rw [if_pos (by simpa using e), if_neg e]; exact ⟨rfl, trivial⟩
abbrev cDirectP : Con := { A := (.cons (.sl tL) (.cons (.sl (.sl tEd)) (.cons .int .nil))), R := (.cons (.sl .int) (.cons .int .nil)), pre := fun x => True, F := fun x => (dirV x.1 x.2.1 x.2.2.1, nE x.1 x.2.1 x.2.2.1, ()) }
def cDirectP_0  (p : (List Lin)) (h : (List (List Edt))) (n : Int) (y0 : (List Int)) (y1 : Int) : Prop :=
  True ∧ (if ((nE p h n) != (0 : Int)) = true then (([] : List Int) = y0 ∧ (nE p h n) = y1 ∧ True) else ((0 ≤ n ∧ n < (h.length : Int) ∧ h.length ≤ 8) ∧ ((dirTo h n (Int.toNat n)) = y0 ∧ (0 : Int) = y1 ∧ True)))
theorem cDirectP_law (h : ∀ (p : (List Lin)) (h : (List (List Edt))) (n : Int), cDirectP.A.wf (p, h, n, ()) → cDirectP_0  p h n (dirV p h n) (nE p h n)) : ConOK Go.Proofs.Try.prog 25 cDirectP := by
  refine lawL (Γ := [(67, cDirect0), (58, cNumbG)]) (Θ := Th) (n := 19) [] ⟨cDirect0_ok, cNumbG_ok, trivial⟩ (by kernel_rfl) th_ok mix_ok Go.Proofs.Try.func25 (by kernel_rfl) ?_
  intro x hw hp Λ hC
  have h0 := h x.1 x.2.1 x.2.2.1 hw  
  exact Eq.mpr (by kernel_rfl) h0
theorem cDirectP_ok : ConOK Go.Proofs.Try.prog 25 cDirectP := by
  refine cDirectP_law ?_
  intro p h n hw
  unfold cDirectP_0
  refine ⟨trivial, ?_⟩
  unfold dirV
  by_cases e : okN p h n
  · rw [if_neg (by simp [nE_iff.2 e]), if_pos e]
    exact ⟨okN_at e, rfl, (nE_iff.2 e).symm, trivial⟩
  · rw [if_pos (by simpa using fun q => e (nE_iff.1 q)), if_neg e]
    exact ⟨rfl, rfl, trivial⟩
abbrev cNeedsP : Con := { A := (.cons (.sl tL) (.cons (.sl (.sl tEd)) (.cons .int .nil))), R := (.cons (.sl .int) (.cons .int .nil)), pre := fun x => True, F := fun x => (needV x.1 x.2.1 x.2.2.1, nE x.1 x.2.1 x.2.2.1, ()) }
def cNeedsP_0  (p : (List Lin)) (h : (List (List Edt))) (n : Int) (y0 : (List Int)) (y1 : Int) : Prop :=
  True ∧ (if ((nE p h n) != (0 : Int)) = true then (([] : List Int) = y0 ∧ (nE p h n) = y1 ∧ True) else ((0 ≤ n ∧ n < (h.length : Int) ∧ h.length ≤ 8) ∧ ((needsL h (Int.toNat n)) = y0 ∧ (0 : Int) = y1 ∧ True)))
theorem cNeedsP_law (h : ∀ (p : (List Lin)) (h : (List (List Edt))) (n : Int), cNeedsP.A.wf (p, h, n, ()) → cNeedsP_0  p h n (needV p h n) (nE p h n)) : ConOK Go.Proofs.Try.prog 17 cNeedsP := by
  refine lawL (Γ := [(59, cNeedsG), (58, cNumbG)]) (Θ := Th) (n := 19) [] ⟨cNeedsG_ok, cNumbG_ok, trivial⟩ (by kernel_rfl) th_ok mix_ok Go.Proofs.Try.func17 (by kernel_rfl) ?_
  intro x hw hp Λ hC
  have h0 := h x.1 x.2.1 x.2.2.1 hw  
  exact Eq.mpr (by kernel_rfl) h0
theorem cNeedsP_ok : ConOK Go.Proofs.Try.prog 17 cNeedsP := by
  refine cNeedsP_law ?_
  intro p h n hw
  unfold cNeedsP_0
  refine ⟨trivial, ?_⟩
  unfold needV
  by_cases e : okN p h n
  · rw [if_neg (by simp [nE_iff.2 e]), if_pos e]
    exact ⟨okN_at e, rfl, (nE_iff.2 e).symm, trivial⟩
  · rw [if_pos (by simpa using fun q => e (nE_iff.1 q)), if_neg e]
    exact ⟨rfl, rfl, trivial⟩
abbrev cNeededP : Con := { A := (.cons (.sl tL) (.cons (.sl (.sl tEd)) (.cons .int .nil))), R := (.cons (.sl .int) (.cons .int .nil)), pre := fun x => True, F := fun x => (neededV x.1 x.2.1 x.2.2.1, nE x.1 x.2.1 x.2.2.1, ()) }
def cNeededP_0  (p : (List Lin)) (h : (List (List Edt))) (n : Int) (y0 : (List Int)) (y1 : Int) : Prop :=
  True ∧ (if ((nE p h n) != (0 : Int)) = true then (([] : List Int) = y0 ∧ (nE p h n) = y1 ∧ True) else ((0 ≤ n ∧ n < (h.length : Int) ∧ h.length ≤ 8) ∧ ((neededL h (Int.toNat n)) = y0 ∧ (0 : Int) = y1 ∧ True)))
theorem cNeededP_law (h : ∀ (p : (List Lin)) (h : (List (List Edt))) (n : Int), cNeededP.A.wf (p, h, n, ()) → cNeededP_0  p h n (neededV p h n) (nE p h n)) : ConOK Go.Proofs.Try.prog 18 cNeededP := by
  refine lawL (Γ := [(60, cNeededG), (58, cNumbG)]) (Θ := Th) (n := 19) [] ⟨cNeededG_ok, cNumbG_ok, trivial⟩ (by kernel_rfl) th_ok mix_ok Go.Proofs.Try.func18 (by kernel_rfl) ?_
  intro x hw hp Λ hC
  have h0 := h x.1 x.2.1 x.2.2.1 hw  
  exact Eq.mpr (by kernel_rfl) h0
theorem cNeededP_ok : ConOK Go.Proofs.Try.prog 18 cNeededP := by
  refine cNeededP_law ?_
  intro p h n hw
  unfold cNeededP_0
  refine ⟨trivial, ?_⟩
  unfold neededV
  by_cases e : okN p h n
  · rw [if_neg (by simp [nE_iff.2 e]), if_pos e]
    exact ⟨okN_at e, rfl, (nE_iff.2 e).symm, trivial⟩
  · rw [if_pos (by simpa using fun q => e (nE_iff.1 q)), if_neg e]
    exact ⟨rfl, rfl, trivial⟩
abbrev cIsSetG : Con := { A := (.cons (.sl .int) (.cons .int .nil)), R := (.cons .bool .nil), pre := fun x => x.2.1 ≤ 1000 ∧ 0 ≤ x.2.1, F := fun x => (isSetB x.1 (Int.toNat x.2.1), ()) }
def cIsSetG_0 (Λ1 : Int → Prop) (l : (List Int)) (n : Int) (y0 : Bool) : Prop :=
  Λ1 (0 : Int)
def cIsSetG_1 (Λ1 : Int → Prop) (l : (List Int)) (n : Int) (y0 : Bool)  (t9_1 : Int) : Prop :=
  if (decide (t9_1 < (List.length l : Int))) = true then (idx t9_1 (List.length l : Int) ∧ (inI (n - (1 : Int)) ∧ (True ∧ (if (!(within (List.getD l (Int.toNat t9_1) 0) (0 : Int) (n - (1 : Int)))) = true then (true = true ∧ (false = y0 ∧ True)) else (if (decide (t9_1 > (0 : Int))) = true then (inI (t9_1 - (1 : Int)) ∧ (idx (t9_1 - (1 : Int)) (List.length l : Int) ∧ (True ∧ (True ∧ (if (bif false then true else (bif true then (decide ((List.getD l (Int.toNat t9_1) 0) ≤ (List.getD l (Int.toNat (t9_1 - (1 : Int))) 0))) else false)) = true then (false = y0 ∧ True) else (inI (t9_1 + (1 : Int)) ∧ Λ1 (t9_1 + (1 : Int)))))))) else (false = false ∧ (True ∧ (if (bif false then true else false) = true then (false = y0 ∧ True) else (inI (t9_1 + (1 : Int)) ∧ Λ1 (t9_1 + (1 : Int))))))))))) else (true = y0 ∧ True)
theorem cIsSetG_law (h : ∀ (l : (List Int)) (n : Int), cIsSetG.A.wf (l, n, ()) → (n ≤ 1000 ∧ 0 ≤ n) → ∀ (Λ1 : Int → Prop), (∀ (t9_1 : Int), cIsSetG_1 Λ1 l n (isSetB l (Int.toNat n)) t9_1 → Λ1 t9_1) → cIsSetG_0 Λ1 l n (isSetB l (Int.toNat n))) : ConOK Go.Proofs.Try.prog 61 cIsSetG := by
  refine lawL (Γ := [(71, cWithin7)]) (Θ := Th) (n := 33) [([1, 0, 1, 0], ⟨[(0, false), (1, false), (7, false), (8, true), (9, true)], []⟩)] ⟨cWithin7_ok, trivial⟩ (by kernel_rfl) th_ok mix_ok Go.Proofs.Try.func61 (by kernel_rfl) ?_
  intro x hw hp Λ hC
  have h0 := h x.1 x.2.1 hw hp (fun t9_1 => Λ [1, 0, 1, 0] ([(0, .d false (.sl .int) x.1), (1, .d false .int x.2.1), (7, .d false (.sl .int) x.1), (8, .d true .int (List.length x.1 : Int)), (9, .d true .int t9_1)], [])) (fun t9_1 hb => hC [1, 0, 1, 0] ([(0, .d false (.sl .int) x.1), (1, .d false .int x.2.1), (7, .d false (.sl .int) x.1), (8, .d true .int (List.length x.1 : Int)), (9, .d true .int t9_1)], []) (Eq.mpr (by kernel_rfl) hb))
  exact Eq.mpr (by kernel_rfl) h0
theorem cIsSetG_ok : ConOK Go.Proofs.Try.prog 61 cIsSetG := by
  refine cIsSetG_law ?_
  intro l n hw hp Λ1 h1
  unfold cIsSetG_0
  obtain ⟨p1, p2⟩ := hp
  obtain ⟨N, rfl⟩ := Int.eq_ofNat_of_zero_le p2
  have hll : l.length ≤ 140737488355328 := hw.1.1
  refine upto (n := l.length) (Q := fun i => okSet l N i = true → Λ1 (i : Int)) ?_ ?_ 0 (Nat.zero_le _) rfl
  · intro ha
    apply h1; unfold cIsSetG_1; rw [if_neg (by simp)]
    show true = isSetB l N ∧ True
    exact ⟨by unfold isSetB; rw [ha], trivial⟩
  · intro i hi ih ha
    have bad : (decide (0 ≤ l.getD i 0) && decide (l.getD i 0 < (N : Int)) && !(decide (i > 0) && decide (l.getD i 0 ≤ l.getD (i - 1) 0))) = false → false = isSetB l N := fun e => (okSet_false e _ hi).symm
    have good : (decide (0 ≤ l.getD i 0) && decide (l.getD i 0 < (N : Int)) && !(decide (i > 0) && decide (l.getD i 0 ≤ l.getD (i - 1) 0))) = true → okSet l N (i + 1) = true := fun e => by unfold okSet; rw [ha, e]; rfl
    apply h1; unfold cIsSetG_1; rw [if_pos (by simpa using hi), Int.toNat_natCast]
    refine ⟨idx_nat hi, by unfold inI; omega, trivial, ?_⟩
    by_cases w : within (List.getD l i 0) 0 ((N : Int) - 1) = true
    · rw [if_neg (by rw [w]; simp)]
      have ⟨w1, w2⟩ := within_iff.1 w
      have w3 : decide (0 ≤ l.getD i 0) = true := decide_eq_true w1
      have w4 : decide (l.getD i 0 < (N : Int)) = true := decide_eq_true (by omega)
      rw [w3, w4] at bad good
      by_cases a3 : i > 0
      · rw [if_pos (by simpa using a3)]
        have e1 : ((i : Int) - 1).toNat = i - 1 := by omega
        rw [e1]
        refine ⟨by unfold inI; omega, ⟨by omega, by omega⟩, trivial, trivial, ?_⟩
        by_cases a5 : l.getD i 0 ≤ l.getD (i - 1) 0
        · rw [if_pos (by simpa using a5)]
          exact ⟨bad (by rw [decide_eq_true a3, decide_eq_true a5]; rfl), trivial⟩
        · rw [if_neg (by simpa using a5)]
          exact ⟨inI_succ hi hll, ih (good (by rw [decide_eq_false a5, Bool.and_false]; rfl))⟩
      · rw [if_neg (by simpa using a3)]
        refine ⟨rfl, trivial, ?_⟩
        rw [if_neg (by simp)]
        exact ⟨inI_succ hi hll, ih (good (by rw [decide_eq_false a3]; rfl))⟩
    · rw [if_pos (by simpa using w)]
      refine ⟨rfl, bad ?_, trivial⟩
      cases hb : (decide (0 ≤ l.getD i 0) && decide (l.getD i 0 < (N : Int)))
      · rfl
      · refine absurd (within_iff.2 ?_) w
        rw [Bool.and_eq_true, decide_eq_true_eq, decide_eq_true_eq] at hb
        omega
abbrev cRevertG : Con := { A := (.cons (.sl tL) (.cons (.sl (.sl tEd)) (.cons (.sl .int) .nil))), R := (.cons (.osl tL) (.cons (.sl .int) (.cons .int .nil))), pre := fun x => True, F := fun x => (revP x.1 x.2.1 x.2.2.1, revL x.1 x.2.1 x.2.2.1, revE x.1 x.2.1 x.2.2.1, ()) }
def cRevertG_0 (Λ1 : Int → (List Int) → Prop) (Λ2 : (List Int) → Int → (List Int) → (List (List Edt)) → Prop) (p : (List Lin)) (h : (List (List Edt))) (set_ : (List Int)) (y0 : (List Lin)) (y1 : (List Int)) (y2 : Int) : Prop :=
  True ∧ (if ((err7 p h) != (0 : Int)) = true then (([] : List Int) = y1 ∧ (err7 p h) = y2 ∧ ([] : List Lin) = y0) else (((List.length h : Int) ≤ 1000 ∧ 0 ≤ (List.length h : Int)) ∧ (if (!(isSetB set_ (Int.toNat (List.length h : Int)))) = true then (([] : List Int) = y1 ∧ (1 : Int) = y2 ∧ ([] : List Lin) = y0) else (set_.length ≤ 1000000 ∧ Λ1 (0 : Int) set_))))
def cRevertG_1 (Λ1 : Int → (List Int) → Prop) (Λ2 : (List Int) → Int → (List Int) → (List (List Edt)) → Prop) (p : (List Lin)) (h : (List (List Edt))) (set_ : (List Int)) (y0 : (List Lin)) (y1 : (List Int)) (y2 : Int)  (t32_1 : Int) (gone_1 : (List Int)) : Prop :=
  if (decide (t32_1 < (List.length set_ : Int))) = true then (idx t32_1 (List.length set_ : Int) ∧ ((0 ≤ (List.getD set_ (Int.toNat t32_1) 0) ∧ (List.getD set_ (Int.toNat t32_1) 0) < (h.length : Int) ∧ h.length ≤ 8) ∧ (List.length gone_1 + List.length (neededL h (Int.toNat (List.getD set_ (Int.toNat t32_1) 0))) ≤ 4294967296 ∧ (inI (t32_1 + (1 : Int)) ∧ Λ1 (t32_1 + (1 : Int)) (gone_1 ++ (neededL h (Int.toNat (List.getD set_ (Int.toNat t32_1) 0)))))))) else Λ2 gone_1 (0 : Int) ([] : List Int) ([] : List (List Edt))
def cRevertG_2 (Λ1 : Int → (List Int) → Prop) (Λ2 : (List Int) → Int → (List Int) → (List (List Edt)) → Prop) (p : (List Lin)) (h : (List (List Edt))) (set_ : (List Int)) (y0 : (List Lin)) (y1 : (List Int)) (y2 : Int) (gone_1 : (List Int)) (t44_2 : Int) (left_2 : (List Int)) (l_2 : (List (List Edt))) : Prop :=
  if (decide (t44_2 < (List.length h : Int))) = true then (idx t44_2 (List.length h : Int) ∧ (True ∧ (if (!(decide (t44_2 ∈ gone_1))) = true then (List.length left_2 + List.length [t44_2] ≤ 4294967296 ∧ (List.length l_2 + List.length ([(List.getD h (Int.toNat t44_2) ([] : List Edt))]) ≤ 4294967296 ∧ (inI (t44_2 + (1 : Int)) ∧ Λ2 gone_1 (t44_2 + (1 : Int)) (left_2 ++ [t44_2]) (l_2 ++ [(List.getD h (Int.toNat t44_2) ([] : List Edt))])))) else (inI (t44_2 + (1 : Int)) ∧ Λ2 gone_1 (t44_2 + (1 : Int)) left_2 l_2)))) else ((okH p.length l_2 ∧ p.length ≤ 8) ∧ (left_2 = y1 ∧ (0 : Int) = y2 ∧ (playH p l_2) = y0))
theorem cRevertG_law (h : ∀ (p : (List Lin)) (h : (List (List Edt))) (set_ : (List Int)), cRevertG.A.wf (p, h, set_, ()) → ∀ (Λ1 : Int → (List Int) → Prop) (Λ2 : (List Int) → Int → (List Int) → (List (List Edt)) → Prop), (∀ (t32_1 : Int) (gone_1 : (List Int)), cRevertG_1 Λ1 Λ2 p h set_ (revP p h set_) (revL p h set_) (revE p h set_) t32_1 gone_1 → Λ1 t32_1 gone_1) → (∀ (gone_1 : (List Int)) (t44_2 : Int) (left_2 : (List Int)) (l_2 : (List (List Edt))), cRevertG_2 Λ1 Λ2 p h set_ (revP p h set_) (revL p h set_) (revE p h set_) gone_1 t44_2 left_2 l_2 → Λ2 gone_1 t44_2 left_2 l_2) → cRevertG_0 Λ1 Λ2 p h set_ (revP p h set_) (revL p h set_) (revE p h set_)) : ConOK Go.Proofs.Try.prog 20 cRevertG := by
  refine lawL (Γ := [(62, cCloneI), (63, cContN), (61, cIsSetG), (60, cNeededG), (64, cPlay0), (32, cVal7)]) (Θ := Th) (n := 66) [([1, 1, 1, 1, 0, 1, 0], ⟨[(0, false), (1, false), (10, true), (30, false), (31, true), (32, true)], [(29, true)]⟩), ([1, 1, 1, 1, 1, 1, 1, 0, 1, 0], ⟨[(0, false), (10, true), (13, true), (14, true), (42, false), (43, true), (44, true)], [(13, true), (14, false), (29, true)]⟩)] ⟨cCloneI_ok, cContN_ok, cIsSetG_ok, cNeededG_ok, cPlay0_ok, cVal7_ok, trivial⟩ (by kernel_rfl) th_ok mix_ok Go.Proofs.Try.func20 (by kernel_rfl) ?_
  intro x hw hp Λ hC
  have h0 := h x.1 x.2.1 x.2.2.1 hw (fun t32_1 gone_1 => Λ [1, 1, 1, 1, 0, 1, 0] ([(0, .d false (.sl tL) x.1), (1, .d false (.sl (.sl tEd)) x.2.1), (10, .own 29 0), (30, .d false (.sl .int) x.2.2.1), (31, .d true .int (List.length x.2.2.1 : Int)), (32, .d true .int t32_1)], [(29, .sl true .int gone_1)])) (fun gone_1 t44_2 left_2 l_2 => Λ [1, 1, 1, 1, 1, 1, 1, 0, 1, 0] ([(0, .d false (.sl tL) x.1), (10, .own 29 0), (13, .own 13 0), (14, .own 14 0), (42, .d false (.sl (.sl tEd)) x.2.1), (43, .d true .int (List.length x.2.1 : Int)), (44, .d true .int t44_2)], [(13, .sl true .int left_2), (14, .sl false (.sl tEd) l_2), (29, .sl true .int gone_1)])) (fun t32_1 gone_1 hb => hC [1, 1, 1, 1, 0, 1, 0] ([(0, .d false (.sl tL) x.1), (1, .d false (.sl (.sl tEd)) x.2.1), (10, .own 29 0), (30, .d false (.sl .int) x.2.2.1), (31, .d true .int (List.length x.2.2.1 : Int)), (32, .d true .int t32_1)], [(29, .sl true .int gone_1)]) (Eq.mpr (by kernel_rfl) hb)) (fun gone_1 t44_2 left_2 l_2 hb => hC [1, 1, 1, 1, 1, 1, 1, 0, 1, 0] ([(0, .d false (.sl tL) x.1), (10, .own 29 0), (13, .own 13 0), (14, .own 14 0), (42, .d false (.sl (.sl tEd)) x.2.1), (43, .d true .int (List.length x.2.1 : Int)), (44, .d true .int t44_2)], [(13, .sl true .int left_2), (14, .sl false (.sl tEd) l_2), (29, .sl true .int gone_1)]) (Eq.mpr (by kernel_rfl) hb))
  exact Eq.mpr (by kernel_rfl) h0
theorem cRevertG_ok : ConOK Go.Proofs.Try.prog 20 cRevertG := by
  refine cRevertG_law ?_
  intro p h set_ hw Λ1 Λ2 h1 h2
  unfold cRevertG_0
  refine ⟨trivial, ?_⟩
  by_cases e : err7 p h = 0
  · rw [if_neg (by simp [e])]
    obtain ⟨e1, e2, e3, e4⟩ := err7_ok e
    refine ⟨⟨by omega, by omega⟩, ?_⟩
    rw [Int.toNat_natCast]
    by_cases s : isSetB set_ h.length = true
    · rw [if_neg (by simp [s])]
      have ok : okS7 p h set_ := ⟨e, s⟩
      have hsl : set_.length ≤ 8 := by
        have := isSetB_len s; omega
      have hm := isSetB_mem s
      refine ⟨by omega, ?_⟩
      have last : ∀ g : List Int, (∀ k : Nat, k < h.length → ((k : Int) ∈ g ↔ goneB h set_ k = true)) → Λ2 g 0 [] [] := by
        intro g hg
        refine upto (n := h.length) (Q := fun i => Λ2 g (i : Int) (leftN h set_ i) (leftH h set_ i)) ?_ ?_ 0 (Nat.zero_le _)
        · apply h2; unfold cRevertG_2; rw [if_neg (by simp)]
          refine ⟨⟨fun x hx => e3 x (leftH_mem (Nat.le_refl _) x hx), (validP_ok e1).1⟩, ?_, ?_, ?_⟩
          · unfold revL; rw [if_pos ok]
          · exact (revE_iff.2 ok).symm
          · unfold revP; rw [if_pos ok]
        · intro i hi ih
          have l1 := selTo_len (fun k => !goneB h set_ k) i
          have l2 := leftH_len h set_ i
          unfold leftN at ih ⊢
          unfold selTo leftH at ih
          apply h2; unfold cRevertG_2; rw [if_pos (by simpa using hi), Int.toNat_natCast]
          refine ⟨idx_nat hi, trivial, ?_⟩
          have hgi := hg i hi
          cases hb : goneB h set_ i
          · rw [hb, if_pos (by rfl), if_neg (by simp)] at ih
            rw [if_pos (by simp; intro q; rw [hgi.1 q] at hb; cases hb)]
            exact ⟨by simp only [List.length_cons, List.length_nil]; omega, by simp only [List.length_cons, List.length_nil]; omega, inI_succ hi (by omega), ih⟩
          · rw [hb, if_neg (by simp), if_pos rfl, List.append_nil, List.append_nil] at ih
            rw [if_neg (by simp; exact hgi.2 hb)]
            exact ⟨inI_succ hi (by omega), ih⟩
      rw [show (0 : Int) = ((0 : Nat) : Int) from rfl]
      refine upto (n := set_.length) (Q := fun i => ∀ g : List Int, g.length ≤ 100 * i + 8 → (∀ k : Nat, k < h.length → ((k : Int) ∈ g ↔ (k : Int) ∈ set_ ∨ ∃ j ∈ set_.take i, need h k j.toNat = true)) → Λ1 (i : Int) g) ?_ ?_ 0 (Nat.zero_le _) set_ (by omega) (fun k hk => by simp)
      · intro g hg1 hg2
        apply h1; unfold cRevertG_1; rw [if_neg (by simp)]
        apply last
        intro k hk
        rw [hg2 k hk, List.take_length]
        unfold goneB
        simp only [Bool.or_eq_true, decide_eq_true_eq, List.any_eq_true]
      · intro i hi ih g hg1 hg2
        have hx := hm _ (mem_getD (d := 0) hi)
        apply h1; unfold cRevertG_1; rw [if_pos (by simpa using hi), Int.toNat_natCast]
        obtain ⟨j, ej⟩ := Int.eq_ofNat_of_zero_le hx.1
        have nl := selTo_len (fun k => need h k j) h.length
        rw [ej] at hx ⊢
        rw [Int.toNat_natCast]
        refine ⟨idx_nat hi, ⟨by omega, by omega, by omega⟩, by unfold neededL; omega, inI_succ hi (by omega), ih _ (by rw [List.length_append]; unfold neededL; omega) ?_⟩
        intro k hk
        rw [List.mem_append, hg2 k hk, take_snoc 0 hi, ej]
        unfold neededL
        rw [selTo_has]
        simp only [List.mem_append, List.mem_singleton]
        constructor
        · rintro ((q | ⟨a, q1, q2⟩) | q)
          · exact .inl q
          · exact .inr ⟨a, .inl q1, q2⟩
          · exact .inr ⟨_, .inr rfl, by rw [Int.toNat_natCast]; exact q.2⟩
        · rintro (q | ⟨a, q1 | q1, q2⟩)
          · exact .inl (.inl q)
          · exact .inl (.inr ⟨a, q1, q2⟩)
          · subst q1
            rw [Int.toNat_natCast] at q2
            exact .inr ⟨hk, q2⟩
    · have s' : isSetB set_ h.length = false := by simpa using s
      have no : ¬ okS7 p h set_ := fun q => s q.2
      rw [if_pos (by simp [s'])]
      unfold revP revL revE
      rw [if_neg no, if_neg no, if_pos e, s']
      exact ⟨rfl, rfl, rfl⟩
  · have no : ¬ okS7 p h set_ := fun q => e q.1
    rw [if_pos (by simpa using e)]
    unfold revP revL revE
    rw [if_neg no, if_neg no, if_neg e]
    exact ⟨rfl, rfl, rfl⟩
abbrev cHas4 : Con := { A := (.cons (.sl .int) (.cons .int .nil)), R := (.cons .bool .nil), pre := fun x => True, F := fun x => (decide (x.2.1 ∈ x.1), ()) }
def cHas4_0 (Λ1 : Int → Prop) (l : (List Int)) (n : Int) (y0 : Bool) : Prop :=
  Λ1 (0 : Int)
def cHas4_1 (Λ1 : Int → Prop) (l : (List Int)) (n : Int) (y0 : Bool)  (i_1 : Int) : Prop :=
  if (decide (i_1 < (List.length l : Int))) = true then (idx i_1 (List.length l : Int) ∧ (if ((List.getD l (Int.toNat i_1) 0) == n) = true then (true = y0 ∧ True) else (inI (i_1 + (1 : Int)) ∧ Λ1 (i_1 + (1 : Int))))) else (false = y0 ∧ True)
theorem cHas4_law (h : ∀ (l : (List Int)) (n : Int), cHas4.A.wf (l, n, ()) → ∀ (Λ1 : Int → Prop), (∀ (i_1 : Int), cHas4_1 Λ1 l n (decide (n ∈ l)) i_1 → Λ1 i_1) → cHas4_0 Λ1 l n (decide (n ∈ l))) : ConOK Go.Proofs.Try.prog 19 cHas4 := by
  refine lawL (Γ := []) (Θ := Th) (n := 18) [([1, 0, 1, 0], ⟨[(0, false), (1, false), (5, true)], []⟩)] trivial (by kernel_rfl) th_ok mix_ok Go.Proofs.Try.func19 (by kernel_rfl) ?_
  intro x hw hp Λ hC
  have h0 := h x.1 x.2.1 hw (fun i_1 => Λ [1, 0, 1, 0] ([(0, .d false (.sl .int) x.1), (1, .d false .int x.2.1), (5, .d true .int i_1)], [])) (fun i_1 hb => hC [1, 0, 1, 0] ([(0, .d false (.sl .int) x.1), (1, .d false .int x.2.1), (5, .d true .int i_1)], []) (Eq.mpr (by kernel_rfl) hb))
  exact Eq.mpr (by kernel_rfl) h0
theorem cHas4_ok : ConOK Go.Proofs.Try.prog 19 cHas4 := by
  refine cHas4_law ?_
  intro l n hw Λ1 h1
  unfold cHas4_0
  refine upto (n := l.length) (Q := fun i => (l.take i).any (fun r => r == n) = false → Λ1 (i : Int)) ?_ ?_ 0 (Nat.zero_le _) rfl
  · intro ha
    rw [List.take_length] at ha
    apply h1; unfold cHas4_1; rw [if_neg (by simp)]
    refine ⟨?_, trivial⟩
    rw [List.any_eq_false] at ha
    refine (decide_eq_false fun q => ?_).symm
    exact ha n q (by simp)
  · intro i hi ih ha
    apply h1; unfold cHas4_1; rw [if_pos (by simpa using hi), Int.toNat_natCast]
    refine ⟨idx_nat hi, ?_⟩
    cases hv : (List.getD l i 0 == n)
    · rw [if_neg (by simp)]
      exact ⟨inI_succ hi hw.1.1, ih (any_take_next (p := fun r => r == n) 0 hi ha hv)⟩
    · rw [if_pos rfl]
      refine ⟨(decide_eq_true ?_).symm, trivial⟩
      have : List.getD l i 0 = n := by simpa using hv
      rw [← this]; exact mem_getD hi
abbrev cTouchR7 : Con := { A := (.cons (.sl tEd) (.cons (.sl tEd) .nil)), R := (.cons .bool .nil), pre := fun x => True, F := fun x => (x.1.any fun a' => x.2.1.any fun b' => a'.1 == b'.1, ()) }
def cTouchR7_0 (Λ1 : Int → Prop) (Λ2 : Int → Int → Prop) (x : (List Edt)) (y_ : (List Edt)) (y0 : Bool) : Prop :=
  Λ1 (0 : Int)
def cTouchR7_1 (Λ1 : Int → Prop) (Λ2 : Int → Int → Prop) (x : (List Edt)) (y_ : (List Edt)) (y0 : Bool)  (i_1 : Int) : Prop :=
  if (decide (i_1 < (List.length x : Int))) = true then Λ2 i_1 (0 : Int) else (false = y0 ∧ True)
def cTouchR7_2 (Λ1 : Int → Prop) (Λ2 : Int → Int → Prop) (x : (List Edt)) (y_ : (List Edt)) (y0 : Bool) (i_1 : Int) (k_2 : Int) : Prop :=
  if (decide (k_2 < (List.length y_ : Int))) = true then (idx i_1 (List.length x : Int) ∧ (idx k_2 (List.length y_ : Int) ∧ (if ((List.getD x (Int.toNat i_1) tEd.dflt).1 == (List.getD y_ (Int.toNat k_2) tEd.dflt).1) = true then (true = y0 ∧ True) else (inI (k_2 + (1 : Int)) ∧ Λ2 i_1 (k_2 + (1 : Int)))))) else (inI (i_1 + (1 : Int)) ∧ Λ1 (i_1 + (1 : Int)))
theorem cTouchR7_law (h : ∀ (x : (List Edt)) (y_ : (List Edt)), cTouchR7.A.wf (x, y_, ()) → ∀ (Λ1 : Int → Prop) (Λ2 : Int → Int → Prop), (∀ (i_1 : Int), cTouchR7_1 Λ1 Λ2 x y_ (x.any fun a' => y_.any fun b' => a'.1 == b'.1) i_1 → Λ1 i_1) → (∀ (i_1 : Int) (k_2 : Int), cTouchR7_2 Λ1 Λ2 x y_ (x.any fun a' => y_.any fun b' => a'.1 == b'.1) i_1 k_2 → Λ2 i_1 k_2) → cTouchR7_0 Λ1 Λ2 x y_ (x.any fun a' => y_.any fun b' => a'.1 == b'.1)) : ConOK Go.Proofs.Try.prog 69 cTouchR7 := by
  refine lawL (Γ := []) (Θ := Th) (n := 30) [([1, 0, 1, 0], ⟨[(0, false), (1, false), (5, true)], []⟩), ([1, 0, 1, 0, 0, 1, 0, 0, 1, 0], ⟨[(0, false), (1, false), (5, true), (6, true)], []⟩)] trivial (by kernel_rfl) th_ok mix_ok Go.Proofs.Try.func69 (by kernel_rfl) ?_
  intro x hw hp Λ hC
  have h0 := h x.1 x.2.1 hw (fun i_1 => Λ [1, 0, 1, 0] ([(0, .d false (.sl tEd) x.1), (1, .d false (.sl tEd) x.2.1), (5, .d true .int i_1)], [])) (fun i_1 k_2 => Λ [1, 0, 1, 0, 0, 1, 0, 0, 1, 0] ([(0, .d false (.sl tEd) x.1), (1, .d false (.sl tEd) x.2.1), (5, .d true .int i_1), (6, .d true .int k_2)], [])) (fun i_1 hb => hC [1, 0, 1, 0] ([(0, .d false (.sl tEd) x.1), (1, .d false (.sl tEd) x.2.1), (5, .d true .int i_1)], []) (Eq.mpr (by kernel_rfl) hb)) (fun i_1 k_2 hb => hC [1, 0, 1, 0, 0, 1, 0, 0, 1, 0] ([(0, .d false (.sl tEd) x.1), (1, .d false (.sl tEd) x.2.1), (5, .d true .int i_1), (6, .d true .int k_2)], []) (Eq.mpr (by kernel_rfl) hb))
  exact Eq.mpr (by kernel_rfl) h0
theorem cTouchR7_ok : ConOK Go.Proofs.Try.prog 69 cTouchR7 := by
  refine cTouchR7_law ?_
  intro x y_ hw Λ1 Λ2 h1 h2
  unfold cTouchR7_0
  have hxl : x.length ≤ 140737488355328 := hw.1.1
  have hyl : y_.length ≤ 140737488355328 := hw.2.1.1
  refine upto (n := x.length) (Q := fun i => (x.take i).any (fun a => y_.any fun b => a.1 == b.1) = false → Λ1 (i : Int)) ?_ ?_ 0 (Nat.zero_le _) rfl
  · intro ha
    rw [List.take_length] at ha
    apply h1; unfold cTouchR7_1; rw [if_neg (by simp)]
    exact ⟨ha.symm, trivial⟩
  · intro i hi ih ha
    apply h1; unfold cTouchR7_1; rw [if_pos (by simpa using hi)]
    refine upto (n := y_.length) (Q := fun k => (y_.take k).any (fun b => (List.getD x i tEd.dflt).1 == b.1) = false → Λ2 (i : Int) (k : Int)) ?_ ?_ 0 (Nat.zero_le _) rfl
    · intro hb
      rw [List.take_length] at hb
      apply h2; unfold cTouchR7_2; rw [if_neg (by simp)]
      exact ⟨inI_succ hi hxl, ih (any_take_next (p := fun a : Edt => y_.any fun b => a.1 == b.1) tEd.dflt hi ha hb)⟩
    · intro k hk ihk hb
      apply h2; unfold cTouchR7_2; rw [if_pos (by simpa using hk), Int.toNat_natCast, Int.toNat_natCast]
      refine ⟨idx_nat hi, idx_nat hk, ?_⟩
      cases hv : ((List.getD x i tEd.dflt).1 == (List.getD y_ k tEd.dflt).1)
      · rw [if_neg (by simp)]
        exact ⟨inI_succ hk hyl, ihk (any_take_next (p := fun b : Edt => (List.getD x i tEd.dflt).1 == b.1) tEd.dflt hk hb hv)⟩
      · rw [if_pos rfl]
        refine ⟨(List.any_eq_true.2 ⟨_, mem_getD (d := tEd.dflt) hi, List.any_eq_true.2 ⟨_, mem_getD (d := tEd.dflt) hk, hv⟩⟩).symm, trivial⟩
abbrev cNeedsMR : Con := { A := (.cons (.sl (.sl tEd)) .nil), R := (.cons (.sl (.sl .bool)) .nil), pre := fun x => x.1.length ≤ 8, F := fun x => (matN x.1, ()), al := true }
def cNeedsMR_0 (Λ1 : Int → (List (List Bool)) → Prop) (Λ2 : Int → Int → (List (List Bool)) → Prop) (Λ3 : Int → Int → Int → (List (List Bool)) → Prop) (h : (List (List Edt))) (y0 : (List (List Bool))) : Prop :=
  mkLen (List.length h : Int) (List.length h : Int) ∧ Λ1 (0 : Int) (List.replicate (Int.toNat (List.length h : Int)) ([] : List Bool))
def cNeedsMR_1 (Λ1 : Int → (List (List Bool)) → Prop) (Λ2 : Int → Int → (List (List Bool)) → Prop) (Λ3 : Int → Int → Int → (List (List Bool)) → Prop) (h : (List (List Edt))) (y0 : (List (List Bool)))  (n_1 : Int) (out_1 : (List (List Bool))) : Prop :=
  if (decide (n_1 < (List.length h : Int))) = true then (mkLen (List.length h : Int) (List.length h : Int) ∧ (idx n_1 (List.length out_1 : Int) ∧ (True ∧ Λ2 n_1 (0 : Int) (List.set out_1 (Int.toNat n_1) (List.replicate (Int.toNat (List.length h : Int)) false))))) else (out_1 = y0 ∧ True)
def cNeedsMR_2 (Λ1 : Int → (List (List Bool)) → Prop) (Λ2 : Int → Int → (List (List Bool)) → Prop) (Λ3 : Int → Int → Int → (List (List Bool)) → Prop) (h : (List (List Edt))) (y0 : (List (List Bool))) (n_1 : Int) (k_2 : Int) (out_2 : (List (List Bool))) : Prop :=
  if (decide (k_2 < n_1)) = true then (idx n_1 (List.length h : Int) ∧ (idx k_2 (List.length h : Int) ∧ (True ∧ (if (!((List.getD h (Int.toNat n_1) ([] : List Edt)).any fun a' => (List.getD h (Int.toNat k_2) ([] : List Edt)).any fun b' => a'.1 == b'.1)) = true then (inI (k_2 + (1 : Int)) ∧ Λ2 n_1 (k_2 + (1 : Int)) out_2) else (idx n_1 (List.length out_2 : Int) ∧ (idx k_2 (List.length (List.getD out_2 (Int.toNat n_1) ([] : List Bool)) : Int) ∧ Λ3 k_2 n_1 (0 : Int) (List.set out_2 (Int.toNat n_1) (List.set (List.getD out_2 (Int.toNat n_1) ([] : List Bool)) (Int.toNat k_2) true)))))))) else (inI (n_1 + (1 : Int)) ∧ Λ1 (n_1 + (1 : Int)) out_2)
def cNeedsMR_3 (Λ1 : Int → (List (List Bool)) → Prop) (Λ2 : Int → Int → (List (List Bool)) → Prop) (Λ3 : Int → Int → Int → (List (List Bool)) → Prop) (h : (List (List Edt))) (y0 : (List (List Bool))) (k_2 : Int) (n_1 : Int) (m_3 : Int) (out_3 : (List (List Bool))) : Prop :=
  if (decide (m_3 < k_2)) = true then (idx n_1 (List.length out_3 : Int) ∧ (idx n_1 (List.length out_3 : Int) ∧ (idx m_3 (List.length (List.getD out_3 (Int.toNat n_1) ([] : List Bool)) : Int) ∧ (if (List.getD (List.getD out_3 (Int.toNat n_1) ([] : List Bool)) (Int.toNat m_3) false) = true then (true = true ∧ (idx m_3 (List.length (List.getD out_3 (Int.toNat n_1) ([] : List Bool)) : Int) ∧ (inI (m_3 + (1 : Int)) ∧ Λ3 k_2 n_1 (m_3 + (1 : Int)) (List.set out_3 (Int.toNat n_1) (List.set (List.getD out_3 (Int.toNat n_1) ([] : List Bool)) (Int.toNat m_3) true))))) else (idx k_2 (List.length out_3 : Int) ∧ (idx m_3 (List.length (List.getD out_3 (Int.toNat k_2) ([] : List Bool)) : Int) ∧ (True ∧ (idx m_3 (List.length (List.getD out_3 (Int.toNat n_1) ([] : List Bool)) : Int) ∧ (inI (m_3 + (1 : Int)) ∧ Λ3 k_2 n_1 (m_3 + (1 : Int)) (List.set out_3 (Int.toNat n_1) (List.set (List.getD out_3 (Int.toNat n_1) ([] : List Bool)) (Int.toNat m_3) (bif false then true else (List.getD (List.getD out_3 (Int.toNat k_2) ([] : List Bool)) (Int.toNat m_3) false))))))))))))) else (inI (k_2 + (1 : Int)) ∧ Λ2 n_1 (k_2 + (1 : Int)) out_3)
theorem cNeedsMR_law (h : ∀ (h : (List (List Edt))), cNeedsMR.A.wf (h, ()) → (h.length ≤ 8) → ∀ (Λ1 : Int → (List (List Bool)) → Prop) (Λ2 : Int → Int → (List (List Bool)) → Prop) (Λ3 : Int → Int → Int → (List (List Bool)) → Prop), (∀ (n_1 : Int) (out_1 : (List (List Bool))), cNeedsMR_1 Λ1 Λ2 Λ3 h (matN h) n_1 out_1 → Λ1 n_1 out_1) → (∀ (n_1 : Int) (k_2 : Int) (out_2 : (List (List Bool))), cNeedsMR_2 Λ1 Λ2 Λ3 h (matN h) n_1 k_2 out_2 → Λ2 n_1 k_2 out_2) → (∀ (k_2 : Int) (n_1 : Int) (m_3 : Int) (out_3 : (List (List Bool))), cNeedsMR_3 Λ1 Λ2 Λ3 h (matN h) k_2 n_1 m_3 out_3 → Λ3 k_2 n_1 m_3 out_3) → cNeedsMR_0 Λ1 Λ2 Λ3 h (matN h)) : ConOK Go.Proofs.Try.prog 65 cNeedsMR := by
  refine lawX (X := { subs := [], frz := [], U := [], mul := [], nst := [9], nls := [], itf := none }) (hX := xok0 _) (Γ := [(69, cTouchR7)]) (Θ := Th) (n := 71) [([1, 1, 0, 1, 0], ⟨[(0, false), (3, true), (4, true)], [(9, true)]⟩), ([1, 1, 0, 1, 0, 0, 1, 0, 0, 1, 1, 0], ⟨[(0, false), (3, true), (4, true), (5, true)], [(9, true)]⟩), ([1, 1, 0, 1, 0, 0, 1, 0, 0, 1, 1, 0, 0, 1, 0, 0, 1, 1, 1, 0], ⟨[(0, false), (3, true), (4, true), (5, true), (6, true)], [(9, true)]⟩)] ⟨cTouchR7_ok, trivial⟩ (by kernel_rfl) th_ok mix_ok Go.Proofs.Try.func65 (by kernel_rfl) ?_
  intro x hw hp Λ hC
  have h0 := h x.1 hw hp (fun n_1 out_1 => Λ [1, 1, 0, 1, 0] ([(0, .d false (.sl (.sl tEd)) x.1), (3, .own 9 0), (4, .d true .int n_1)], [(9, .nl true .bool out_1 0 none)])) (fun n_1 k_2 out_2 => Λ [1, 1, 0, 1, 0, 0, 1, 0, 0, 1, 1, 0] ([(0, .d false (.sl (.sl tEd)) x.1), (3, .own 9 0), (4, .d true .int n_1), (5, .d true .int k_2)], [(9, .nl true .bool out_2 0 none)])) (fun k_2 n_1 m_3 out_3 => Λ [1, 1, 0, 1, 0, 0, 1, 0, 0, 1, 1, 0, 0, 1, 0, 0, 1, 1, 1, 0] ([(0, .d false (.sl (.sl tEd)) x.1), (3, .own 9 0), (4, .d true .int n_1), (5, .d true .int k_2), (6, .d true .int m_3)], [(9, .nl true .bool out_3 0 none)])) (fun n_1 out_1 hb => hC [1, 1, 0, 1, 0] ([(0, .d false (.sl (.sl tEd)) x.1), (3, .own 9 0), (4, .d true .int n_1)], [(9, .nl true .bool out_1 0 none)]) (Eq.mpr (by kernel_rfl) hb)) (fun n_1 k_2 out_2 hb => hC [1, 1, 0, 1, 0, 0, 1, 0, 0, 1, 1, 0] ([(0, .d false (.sl (.sl tEd)) x.1), (3, .own 9 0), (4, .d true .int n_1), (5, .d true .int k_2)], [(9, .nl true .bool out_2 0 none)]) (Eq.mpr (by kernel_rfl) hb)) (fun k_2 n_1 m_3 out_3 hb => hC [1, 1, 0, 1, 0, 0, 1, 0, 0, 1, 1, 0, 0, 1, 0, 0, 1, 1, 1, 0] ([(0, .d false (.sl (.sl tEd)) x.1), (3, .own 9 0), (4, .d true .int n_1), (5, .d true .int k_2), (6, .d true .int m_3)], [(9, .nl true .bool out_3 0 none)]) (Eq.mpr (by kernel_rfl) hb))
  exact Eq.mpr (by kernel_rfl) h0
theorem cNeedsMR_ok : ConOK Go.Proofs.Try.prog 65 cNeedsMR := by
  refine cNeedsMR_law ?_
  intro h hw hp Λ1 Λ2 Λ3 h1 h2 h3
  unfold cNeedsMR_0
  refine ⟨by unfold mkLen; omega, ?_⟩
  rw [Int.toNat_natCast, outM_zero]
  refine upto (n := h.length) (Q := fun n => Λ1 (n : Int) (outM h n)) ?_ ?_ 0 (Nat.zero_le _)
  · apply h1; unfold cNeedsMR_1; rw [if_neg (by simp), outM_end]
    exact ⟨rfl, trivial⟩
  · intro n hn ih
    apply h1; unfold cNeedsMR_1; rw [if_pos (by simpa using hn), Int.toNat_natCast, Int.toNat_natCast]
    refine ⟨by unfold mkLen; omega, ⟨by omega, by rw [outM_len]; omega⟩, trivial, ?_⟩
    have row : ∀ r : List Bool, r.length = h.length → (∀ j, r.getD j false = need h n j) → r = rowN h n := by
      intro r hr he
      refine ext_getD false (by rw [hr, rowN_len]) fun i hi => ?_
      rw [he, rowN_get h hn]
    refine upto (n := n) (Q := fun k => ∀ r : List Bool, r.length = h.length → (∀ j, r.getD j false = rowP h n k j) → Λ2 (n : Int) (k : Int) ((outM h n).set n r)) ?_ ?_ 0 (Nat.zero_le _) (List.replicate h.length false) (by simp) ?_
    · intro r hr he
      apply h2; unfold cNeedsMR_2; rw [if_neg (by simp)]
      rw [row r hr (fun j => by rw [he j, rowP_end]), outM_succ h hn]
      exact ⟨inI_succ hn (by omega), ih⟩
    · intro k hk ihk r hr he
      apply h2; unfold cNeedsMR_2; rw [if_pos (by simpa using hk), Int.toNat_natCast, Int.toNat_natCast]
      have ht : ((List.getD h n []).any fun a' => (List.getD h k []).any fun b' => a'.1 == b'.1) = tch h k n := tch_comm h n k
      have ol : ∀ q : List Bool, ((outM h n).set n q).length = h.length := fun q => by rw [List.length_set, outM_len]
      refine ⟨⟨by omega, by omega⟩, ⟨by omega, by omega⟩, trivial, ?_⟩
      rw [ht]
      cases t : tch h k n
      · rw [if_pos (by rfl)]
        exact ⟨inI_succ hk (by omega), ihk r hr fun j => by rw [he j, rowP_skip t]⟩
      · rw [if_neg (by simp), outM_at h hn, List.set_set]
        refine ⟨⟨by omega, by rw [ol]; omega⟩, ⟨by omega, by omega⟩, ?_⟩
        refine upto (n := k) (Q := fun m => ∀ r : List Bool, r.length = h.length → (∀ j, r.getD j false = (rowP h n k j || decide (j = k) || (decide (j < m) && need h k j))) → Λ3 (k : Int) (n : Int) (m : Int) ((outM h n).set n r)) ?_ ?_ 0 (Nat.zero_le _) (r.set k true) (by simpa using hr) ?_
        · intro r hr he
          apply h3; unfold cNeedsMR_3; rw [if_neg (by simp)]
          exact ⟨inI_succ hk (by omega), ihk r hr fun j => by rw [he j, rowP_take t]⟩
        · intro m hm ihm r hr he
          apply h3; unfold cNeedsMR_3
          rw [if_pos (by simpa using hm), Int.toNat_natCast, Int.toNat_natCast, Int.toNat_natCast, outM_at h hn, outM_get h hn hk, List.set_set, List.set_set, ol, hr, rowN_len, rowN_get h (by omega)]
          refine ⟨⟨by omega, by omega⟩, ⟨by omega, by omega⟩, ⟨by omega, by omega⟩, ?_⟩
          have nx : ∀ b : Bool, b = (rowP h n k m || decide (m = k) || need h k m) → ∀ j, (r.set m b).getD j false = (rowP h n k j || decide (j = k) || (decide (j < m + 1) && need h k j)) := by
            intro b hb j
            rw [getD_setL (by omega)]
            by_cases e : m = j
            · subst e; rw [if_pos rfl, hb]; simp
            · rw [if_neg e, he j, show decide (j < m + 1) = decide (j < m) by simp; omega]
          by_cases hv : List.getD r m false = true
          · rw [if_pos hv]
            refine ⟨rfl, ⟨by omega, by omega⟩, inI_succ hm (by omega), ihm _ (by simpa using hr) (nx true ?_)⟩
            have := he m
            rw [hv] at this
            simp at this
            rcases this with q | q
            · simp [q]
            · simp [q]
          · rw [if_neg hv]
            refine ⟨⟨by omega, by omega⟩, ⟨by omega, by omega⟩, trivial, ⟨by omega, by omega⟩, inI_succ hm (by omega), ihm _ (by simpa using hr) (nx _ ?_)⟩
            have := he m
            have hv : List.getD r m false = false := by simpa using hv
            rw [hv] at this
            simp at this
            simp [this]
        · intro j
          rw [getD_setL (by omega)]
          by_cases e : k = j
          · subst e; rw [if_pos rfl]; simp
          · rw [if_neg e, he j]; simp; omega
    · intro j
      have : rowP h n 0 j = false := by unfold rowP; simp
      rw [this]
      simp only [List.getD_eq_getElem?_getD, List.getElem?_replicate]
      split <;> rfl
abbrev cRepairR : Con := { A := (.cons (.sl tL) (.cons (.sl (.sl tEd)) (.cons .int .nil))), R := (.cons .int .nil), pre := fun x => True, F := fun x => (nE x.1 x.2.1 x.2.2.1, ()) }
def cRepairR_0  (p : (List Lin)) (h : (List (List Edt))) (n : Int) (y0 : Int) : Prop :=
  True ∧ (if ((err7 p h) != (0 : Int)) = true then ((err7 p h) = y0 ∧ True) else (if (decide (n < (0 : Int))) = true then (true = true ∧ ((4 : Int) = y0 ∧ True)) else (True ∧ (if (bif false then true else (decide (n ≥ (List.length h : Int)))) = true then ((4 : Int) = y0 ∧ True) else ((0 : Int) = y0 ∧ True)))))
theorem cRepairR_law (h : ∀ (p : (List Lin)) (h : (List (List Edt))) (n : Int), cRepairR.A.wf (p, h, n, ()) → cRepairR_0  p h n (nE p h n)) : ConOK Go.Proofs.Try.prog 68 cRepairR := by
  refine lawL (Γ := [(33, cVal7R)]) (Θ := Th) (n := 22) [] ⟨cVal7R_ok, trivial⟩ (by kernel_rfl) th_ok mix_ok Go.Proofs.Try.func68 (by kernel_rfl) ?_
  intro x hw hp Λ hC
  have h0 := h x.1 x.2.1 x.2.2.1 hw  
  exact Eq.mpr (by kernel_rfl) h0
theorem cRepairR_ok : ConOK Go.Proofs.Try.prog 68 cRepairR := by
  refine cRepairR_law ?_
  intro p h n hw
  unfold cRepairR_0
  refine ⟨trivial, ?_⟩
  unfold nE
  by_cases e : err7 p h = 0
  · rw [if_neg (by simp [e]), if_pos e]
    by_cases a1 : n < 0
    · rw [if_pos (by simpa using a1), if_neg (by rw [within_iff]; omega)]
      exact ⟨rfl, rfl, trivial⟩
    · rw [if_neg (by simpa using a1)]
      refine ⟨trivial, ?_⟩
      by_cases a2 : n ≥ (h.length : Int)
      · rw [if_pos (by simpa using a2), if_neg (by rw [within_iff]; omega)]
        exact ⟨rfl, trivial⟩
      · rw [if_neg (by simpa using a2), if_pos (by rw [within_iff]; omega)]
        exact ⟨rfl, trivial⟩
  · rw [if_pos (by simpa using e), if_neg e]; exact ⟨rfl, trivial⟩
abbrev cDirectR : Con := { A := (.cons (.sl tL) (.cons (.sl (.sl tEd)) (.cons .int .nil))), R := (.cons (.sl .int) (.cons .int .nil)), pre := fun x => True, F := fun x => (dirV x.1 x.2.1 x.2.2.1, nE x.1 x.2.1 x.2.2.1, ()) }
def cDirectR_0 (Λ1 : Int → (List Int) → Prop) (p : (List Lin)) (h : (List (List Edt))) (n : Int) (y0 : (List Int)) (y1 : Int) : Prop :=
  True ∧ (if ((nE p h n) != (0 : Int)) = true then (([] : List Int) = y0 ∧ (nE p h n) = y1 ∧ True) else Λ1 (0 : Int) ([] : List Int))
def cDirectR_1 (Λ1 : Int → (List Int) → Prop) (p : (List Lin)) (h : (List (List Edt))) (n : Int) (y0 : (List Int)) (y1 : Int)  (k_1 : Int) (out_1 : (List Int)) : Prop :=
  if (decide (k_1 < n)) = true then (idx n (List.length h : Int) ∧ (idx k_1 (List.length h : Int) ∧ (True ∧ (if ((List.getD h (Int.toNat n) ([] : List Edt)).any fun a' => (List.getD h (Int.toNat k_1) ([] : List Edt)).any fun b' => a'.1 == b'.1) = true then (List.length out_1 + List.length [k_1] ≤ 4294967296 ∧ (inI (k_1 + (1 : Int)) ∧ Λ1 (k_1 + (1 : Int)) (out_1 ++ [k_1]))) else (inI (k_1 + (1 : Int)) ∧ Λ1 (k_1 + (1 : Int)) out_1))))) else (out_1 = y0 ∧ (0 : Int) = y1 ∧ True)
theorem cDirectR_law (h : ∀ (p : (List Lin)) (h : (List (List Edt))) (n : Int), cDirectR.A.wf (p, h, n, ()) → ∀ (Λ1 : Int → (List Int) → Prop), (∀ (k_1 : Int) (out_1 : (List Int)), cDirectR_1 Λ1 p h n (dirV p h n) (nE p h n) k_1 out_1 → Λ1 k_1 out_1) → cDirectR_0 Λ1 p h n (dirV p h n) (nE p h n)) : ConOK Go.Proofs.Try.prog 26 cDirectR := by
  refine lawL (Γ := [(68, cRepairR), (69, cTouchR7)]) (Θ := Th) (n := 37) [([1, 1, 1, 1, 0, 1, 0], ⟨[(1, false), (2, false), (9, true), (10, true)], [(9, true)]⟩)] ⟨cRepairR_ok, cTouchR7_ok, trivial⟩ (by kernel_rfl) th_ok mix_ok Go.Proofs.Try.func26 (by kernel_rfl) ?_
  intro x hw hp Λ hC
  have h0 := h x.1 x.2.1 x.2.2.1 hw (fun k_1 out_1 => Λ [1, 1, 1, 1, 0, 1, 0] ([(1, .d false (.sl (.sl tEd)) x.2.1), (2, .d false .int x.2.2.1), (9, .own 9 0), (10, .d true .int k_1)], [(9, .sl true .int out_1)])) (fun k_1 out_1 hb => hC [1, 1, 1, 1, 0, 1, 0] ([(1, .d false (.sl (.sl tEd)) x.2.1), (2, .d false .int x.2.2.1), (9, .own 9 0), (10, .d true .int k_1)], [(9, .sl true .int out_1)]) (Eq.mpr (by kernel_rfl) hb))
  exact Eq.mpr (by kernel_rfl) h0
theorem cDirectR_ok : ConOK Go.Proofs.Try.prog 26 cDirectR := by
  refine cDirectR_law ?_
  intro p h n hw Λ1 h1
  unfold cDirectR_0
  refine ⟨trivial, ?_⟩
  by_cases e : okN p h n
  · rw [if_neg (by simp [nE_iff.2 e])]
    obtain ⟨p1, p2, p3⟩ := okN_at e
    obtain ⟨N, rfl⟩ := Int.eq_ofNat_of_zero_le p1
    have hv : dirV p h (N : Int) = dirTo h (N : Int) N := if_pos e
    refine upto (n := N) (Q := fun i => Λ1 (i : Int) (dirTo h (N : Int) i)) ?_ ?_ 0 (Nat.zero_le _)
    · apply h1; unfold cDirectR_1; rw [if_neg (by simp)]
      exact ⟨hv.symm, (nE_iff.2 e).symm, trivial⟩
    · intro i hi ih
      have hle : (dirTo h (N : Int) i).length ≤ i := by rw [dirTo_sel]; exact selTo_len _ i
      rw [show dirTo h (N : Int) (i + 1) = dirTo h (N : Int) i ++ if touchB h i N = true then [(i : Int)] else [] from rfl] at ih
      have ht : ((List.getD h N []).any fun a' => (List.getD h i []).any fun b' => a'.1 == b'.1) = touchB h i N := touchB_comm h N i
      apply h1; unfold cDirectR_1; rw [if_pos (by simpa using hi), Int.toNat_natCast, Int.toNat_natCast, ht]
      refine ⟨⟨by omega, by omega⟩, ⟨by omega, by omega⟩, trivial, ?_⟩
      by_cases g : touchB h i N = true
      · rw [if_pos g] at ih ⊢
        exact ⟨by simp only [List.length_cons, List.length_nil]; omega, inI_succ hi (by omega), ih⟩
      · rw [if_neg g, List.append_nil] at ih
        rw [if_neg g]
        exact ⟨inI_succ hi (by omega), ih⟩
  · have hv : dirV p h n = [] := if_neg e
    rw [if_pos (by simpa using fun q => e (nE_iff.1 q)), hv]
    exact ⟨rfl, rfl, trivial⟩
abbrev cNeedsR : Con := { A := (.cons (.sl tL) (.cons (.sl (.sl tEd)) (.cons .int .nil))), R := (.cons (.sl .int) (.cons .int .nil)), pre := fun x => True, F := fun x => (needV x.1 x.2.1 x.2.2.1, nE x.1 x.2.1 x.2.2.1, ()) }
def cNeedsR_0 (Λ1 : Int → (List Int) → Prop) (p : (List Lin)) (h : (List (List Edt))) (n : Int) (y0 : (List Int)) (y1 : Int) : Prop :=
  True ∧ (if ((nE p h n) != (0 : Int)) = true then (([] : List Int) = y0 ∧ (nE p h n) = y1 ∧ True) else (h.length ≤ 8 ∧ Λ1 (0 : Int) ([] : List Int)))
def cNeedsR_1 (Λ1 : Int → (List Int) → Prop) (p : (List Lin)) (h : (List (List Edt))) (n : Int) (y0 : (List Int)) (y1 : Int)  (k_1 : Int) (out_1 : (List Int)) : Prop :=
  if (decide (k_1 < (List.length h : Int))) = true then (idx n (List.length (matN h) : Int) ∧ (idx k_1 (List.length (List.getD (matN h) (Int.toNat n) ([] : List Bool)) : Int) ∧ (if (List.getD (List.getD (matN h) (Int.toNat n) ([] : List Bool)) (Int.toNat k_1) false) = true then (List.length out_1 + List.length [k_1] ≤ 4294967296 ∧ (inI (k_1 + (1 : Int)) ∧ Λ1 (k_1 + (1 : Int)) (out_1 ++ [k_1]))) else (inI (k_1 + (1 : Int)) ∧ Λ1 (k_1 + (1 : Int)) out_1)))) else (out_1 = y0 ∧ (0 : Int) = y1 ∧ True)
theorem cNeedsR_law (h : ∀ (p : (List Lin)) (h : (List (List Edt))) (n : Int), cNeedsR.A.wf (p, h, n, ()) → ∀ (Λ1 : Int → (List Int) → Prop), (∀ (k_1 : Int) (out_1 : (List Int)), cNeedsR_1 Λ1 p h n (needV p h n) (nE p h n) k_1 out_1 → Λ1 k_1 out_1) → cNeedsR_0 Λ1 p h n (needV p h n) (nE p h n)) : ConOK Go.Proofs.Try.prog 27 cNeedsR := by
  refine lawL (Γ := [(65, cNeedsMR), (68, cRepairR)]) (Θ := Th) (n := 39) [([1, 1, 1, 1, 1, 0, 1, 0], ⟨[(1, false), (2, false), (9, false), (10, true), (11, true)], [(10, true)]⟩)] ⟨cNeedsMR_ok, cRepairR_ok, trivial⟩ (by kernel_rfl) th_ok mix_ok Go.Proofs.Try.func27 (by kernel_rfl) ?_
  intro x hw hp Λ hC
  have h0 := h x.1 x.2.1 x.2.2.1 hw (fun k_1 out_1 => Λ [1, 1, 1, 1, 1, 0, 1, 0] ([(1, .d false (.sl (.sl tEd)) x.2.1), (2, .d false .int x.2.2.1), (9, .d false (.sl (.sl .bool)) (matN x.2.1)), (10, .own 10 0), (11, .d true .int k_1)], [(10, .sl true .int out_1)])) (fun k_1 out_1 hb => hC [1, 1, 1, 1, 1, 0, 1, 0] ([(1, .d false (.sl (.sl tEd)) x.2.1), (2, .d false .int x.2.2.1), (9, .d false (.sl (.sl .bool)) (matN x.2.1)), (10, .own 10 0), (11, .d true .int k_1)], [(10, .sl true .int out_1)]) (Eq.mpr (by kernel_rfl) hb))
  exact Eq.mpr (by kernel_rfl) h0
theorem cNeedsR_ok : ConOK Go.Proofs.Try.prog 27 cNeedsR := by
  refine cNeedsR_law ?_
  intro p h n hw Λ1 h1
  unfold cNeedsR_0
  refine ⟨trivial, ?_⟩
  by_cases e : okN p h n
  · rw [if_neg (by simp [nE_iff.2 e])]
    obtain ⟨p1, p2, p3⟩ := okN_at e
    obtain ⟨N, rfl⟩ := Int.eq_ofNat_of_zero_le p1
    have hv : needV p h (N : Int) = needsL h N := if_pos e
    refine ⟨p3, ?_⟩
    refine upto (n := h.length) (Q := fun i => Λ1 (i : Int) (selTo (need h N) i)) ?_ ?_ 0 (Nat.zero_le _)
    · apply h1; unfold cNeedsR_1; rw [if_neg (by simp)]
      exact ⟨hv.symm, (nE_iff.2 e).symm, trivial⟩
    · intro i hi ih
      have hle := selTo_len (need h N) i
      rw [show selTo (need h N) (i + 1) = selTo (need h N) i ++ if need h N i = true then [(i : Int)] else [] from rfl] at ih
      apply h1; unfold cNeedsR_1; rw [if_pos (by simpa using hi), Int.toNat_natCast, Int.toNat_natCast, matN_get h (by omega), matN_row h (by omega), matN_len, rowN_len]
      refine ⟨⟨by omega, by omega⟩, ⟨by omega, by omega⟩, ?_⟩
      by_cases g : need h N i = true
      · rw [if_pos g] at ih ⊢
        exact ⟨by simp only [List.length_cons, List.length_nil]; omega, inI_succ hi (by omega), ih⟩
      · rw [if_neg g, List.append_nil] at ih
        rw [if_neg g]
        exact ⟨inI_succ hi (by omega), ih⟩
  · have hv : needV p h n = [] := if_neg e
    rw [if_pos (by simpa using fun q => e (nE_iff.1 q)), hv]
    exact ⟨rfl, rfl, trivial⟩
abbrev cNeededR : Con := { A := (.cons (.sl tL) (.cons (.sl (.sl tEd)) (.cons .int .nil))), R := (.cons (.sl .int) (.cons .int .nil)), pre := fun x => True, F := fun x => (neededV x.1 x.2.1 x.2.2.1, nE x.1 x.2.1 x.2.2.1, ()) }
def cNeededR_0 (Λ1 : Int → (List Int) → Prop) (p : (List Lin)) (h : (List (List Edt))) (n : Int) (y0 : (List Int)) (y1 : Int) : Prop :=
  True ∧ (if ((nE p h n) != (0 : Int)) = true then (([] : List Int) = y0 ∧ (nE p h n) = y1 ∧ True) else (h.length ≤ 8 ∧ Λ1 (0 : Int) ([] : List Int)))
def cNeededR_1 (Λ1 : Int → (List Int) → Prop) (p : (List Lin)) (h : (List (List Edt))) (n : Int) (y0 : (List Int)) (y1 : Int)  (k_1 : Int) (out_1 : (List Int)) : Prop :=
  if (decide (k_1 < (List.length h : Int))) = true then (idx k_1 (List.length (matN h) : Int) ∧ (idx n (List.length (List.getD (matN h) (Int.toNat k_1) ([] : List Bool)) : Int) ∧ (if (List.getD (List.getD (matN h) (Int.toNat k_1) ([] : List Bool)) (Int.toNat n) false) = true then (List.length out_1 + List.length [k_1] ≤ 4294967296 ∧ (inI (k_1 + (1 : Int)) ∧ Λ1 (k_1 + (1 : Int)) (out_1 ++ [k_1]))) else (inI (k_1 + (1 : Int)) ∧ Λ1 (k_1 + (1 : Int)) out_1)))) else (out_1 = y0 ∧ (0 : Int) = y1 ∧ True)
theorem cNeededR_law (h : ∀ (p : (List Lin)) (h : (List (List Edt))) (n : Int), cNeededR.A.wf (p, h, n, ()) → ∀ (Λ1 : Int → (List Int) → Prop), (∀ (k_1 : Int) (out_1 : (List Int)), cNeededR_1 Λ1 p h n (neededV p h n) (nE p h n) k_1 out_1 → Λ1 k_1 out_1) → cNeededR_0 Λ1 p h n (neededV p h n) (nE p h n)) : ConOK Go.Proofs.Try.prog 28 cNeededR := by
  refine lawL (Γ := [(65, cNeedsMR), (68, cRepairR)]) (Θ := Th) (n := 39) [([1, 1, 1, 1, 1, 0, 1, 0], ⟨[(1, false), (2, false), (9, false), (10, true), (11, true)], [(10, true)]⟩)] ⟨cNeedsMR_ok, cRepairR_ok, trivial⟩ (by kernel_rfl) th_ok mix_ok Go.Proofs.Try.func28 (by kernel_rfl) ?_
  intro x hw hp Λ hC
  have h0 := h x.1 x.2.1 x.2.2.1 hw (fun k_1 out_1 => Λ [1, 1, 1, 1, 1, 0, 1, 0] ([(1, .d false (.sl (.sl tEd)) x.2.1), (2, .d false .int x.2.2.1), (9, .d false (.sl (.sl .bool)) (matN x.2.1)), (10, .own 10 0), (11, .d true .int k_1)], [(10, .sl true .int out_1)])) (fun k_1 out_1 hb => hC [1, 1, 1, 1, 1, 0, 1, 0] ([(1, .d false (.sl (.sl tEd)) x.2.1), (2, .d false .int x.2.2.1), (9, .d false (.sl (.sl .bool)) (matN x.2.1)), (10, .own 10 0), (11, .d true .int k_1)], [(10, .sl true .int out_1)]) (Eq.mpr (by kernel_rfl) hb))
  exact Eq.mpr (by kernel_rfl) h0
theorem cNeededR_ok : ConOK Go.Proofs.Try.prog 28 cNeededR := by
  refine cNeededR_law ?_
  intro p h n hw Λ1 h1
  unfold cNeededR_0
  refine ⟨trivial, ?_⟩
  by_cases e : okN p h n
  · rw [if_neg (by simp [nE_iff.2 e])]
    obtain ⟨p1, p2, p3⟩ := okN_at e
    obtain ⟨N, rfl⟩ := Int.eq_ofNat_of_zero_le p1
    have hv : neededV p h (N : Int) = neededL h N := if_pos e
    refine ⟨p3, ?_⟩
    refine upto (n := h.length) (Q := fun i => Λ1 (i : Int) (selTo (fun k => need h k N) i)) ?_ ?_ 0 (Nat.zero_le _)
    · apply h1; unfold cNeededR_1; rw [if_neg (by simp)]
      exact ⟨hv.symm, (nE_iff.2 e).symm, trivial⟩
    · intro i hi ih
      have hle := selTo_len (fun k => need h k N) i
      rw [show selTo (fun k => need h k N) (i + 1) = selTo (fun k => need h k N) i ++ if need h i N = true then [(i : Int)] else [] from rfl] at ih
      apply h1; unfold cNeededR_1; rw [if_pos (by simpa using hi), Int.toNat_natCast, Int.toNat_natCast, matN_get h (by omega), matN_row h (by omega), matN_len, rowN_len]
      refine ⟨⟨by omega, by omega⟩, ⟨by omega, by omega⟩, ?_⟩
      by_cases g : need h i N = true
      · rw [if_pos g] at ih ⊢
        exact ⟨by simp only [List.length_cons, List.length_nil]; omega, inI_succ hi (by omega), ih⟩
      · rw [if_neg g, List.append_nil] at ih
        rw [if_neg g]
        exact ⟨inI_succ hi (by omega), ih⟩
  · have hv : neededV p h n = [] := if_neg e
    rw [if_pos (by simpa using fun q => e (nE_iff.1 q)), hv]
    exact ⟨rfl, rfl, trivial⟩
end Go.Tk
