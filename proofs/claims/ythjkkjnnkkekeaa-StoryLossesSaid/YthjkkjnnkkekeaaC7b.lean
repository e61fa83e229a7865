import Derived.Test.YthjkkjnnkkekeaaC7g
set_option linter.unusedSimpArgs false
set_option linter.unusedVariables false
set_option linter.unnecessarySimpa false
namespace Go.Tk
open Go Go.RowKit

def pairI (n k : Int) : List Int := List.set (List.set (List.replicate 2 0) 0 n) 1 k
def lossK (p : List Lin) (h : List (List Edt)) (l : List Tst) (n : Nat) : Nat → List (List Int)
  | 0 => []
  | k + 1 => lossK p h l n k ++ if okAt p h (l.getD k tTs.dflt) n = true then (if okAt p h (l.getD k tTs.dflt) (n + 1) = true then [] else [pairI n k]) else []
theorem lossK_len (p : List Lin) (h : List (List Edt)) (l : List Tst) (n : Nat) : ∀ k, (lossK p h l n k).length ≤ k
  | 0 => Nat.le_refl _
  | k + 1 => by
    unfold lossK
    rw [List.length_append]
    have := lossK_len p h l n k
    split
    · split <;> simp <;> omega
    · simp; omega
def lossTo (p : List Lin) (h : List (List Edt)) (l : List Tst) : Nat → List (List Int)
  | 0 => []
  | n + 1 => lossTo p h l n ++ lossK p h l n l.length
theorem lossTo_len (p : List Lin) (h : List (List Edt)) (l : List Tst) : ∀ n, (lossTo p h l n).length ≤ n * l.length
  | 0 => by simp [lossTo]
  | n + 1 => by
    unfold lossTo
    rw [List.length_append, Nat.add_mul, Nat.one_mul]
    have := lossTo_len p h l n
    have := lossK_len p h l n l.length
    omega
theorem lossTo_small {p : List Lin} {h : List (List Edt)} {l : List Tst} (h8 : h.length ≤ 8) (l8 : l.length ≤ 8) {n : Nat} (hn : n ≤ h.length) : (lossTo p h l n).length ≤ 64 := by
  have := lossTo_len p h l n
  have : n * l.length ≤ 8 * 8 := Nat.mul_le_mul (by omega) l8
  omega

abbrev cLosses7 : Con := { A := (.cons (.sl tL) (.cons (.sl (.sl tEd)) (.cons (.sl tTs) .nil))), R := (.cons (.sl (.arr 2 .int)) (.cons .int .nil)), pre := fun x => True, F := fun x => ((if err7t x.1 x.2.1 x.2.2.1 = 0 then lossTo x.1 x.2.1 x.2.2.1 x.2.1.length else []), err7t x.1 x.2.1 x.2.2.1, ()) }
def cLosses7_0 (Λ1 : Int → (List (List Int)) → Prop) (Λ2 : Int → Int → (List (List Int)) → Prop) (p : (List Lin)) (h : (List (List Edt))) (l : (List Tst)) (y0 : (List (List Int))) (y1 : Int) : Prop :=
  True ∧ (if ((err7t p h l) != (0 : Int)) = true then (([] : List (List Int)) = y0 ∧ (err7t p h l) = y1 ∧ True) else Λ1 (0 : Int) ([] : List (List Int)))
def cLosses7_1 (Λ1 : Int → (List (List Int)) → Prop) (Λ2 : Int → Int → (List (List Int)) → Prop) (p : (List Lin)) (h : (List (List Edt))) (l : (List Tst)) (y0 : (List (List Int))) (y1 : Int)  (t22_1 : Int) (out_1 : (List (List Int))) : Prop :=
  if (decide (t22_1 < (List.length h : Int))) = true then Λ2 t22_1 (0 : Int) out_1 else (out_1 = y0 ∧ (0 : Int) = y1 ∧ True)
def cLosses7_2 (Λ1 : Int → (List (List Int)) → Prop) (Λ2 : Int → Int → (List (List Int)) → Prop) (p : (List Lin)) (h : (List (List Edt))) (l : (List Tst)) (y0 : (List (List Int))) (y1 : Int) (t22_1 : Int) (t27_2 : Int) (out_2 : (List (List Int))) : Prop :=
  if (decide (t27_2 < (List.length l : Int))) = true then (idx t27_2 (List.length l : Int) ∧ ((err7 p h = 0 ∧ 0 ≤ t22_1 ∧ t22_1 ≤ (h.length : Int)) ∧ (if (okAt p h (List.getD l (Int.toNat t27_2) tTs.dflt) (Int.toNat t22_1)) = true then (inI (t22_1 + (1 : Int)) ∧ ((err7 p h = 0 ∧ 0 ≤ (t22_1 + (1 : Int)) ∧ (t22_1 + (1 : Int)) ≤ (h.length : Int)) ∧ (True ∧ (if (bif true then (!(okAt p h (List.getD l (Int.toNat t27_2) tTs.dflt) (Int.toNat (t22_1 + (1 : Int))))) else false) = true then (List.length out_2 + List.length [(List.set (List.set (List.replicate 2 0) 0 t22_1) 1 t27_2)] ≤ 4294967296 ∧ (inI (t27_2 + (1 : Int)) ∧ Λ2 t22_1 (t27_2 + (1 : Int)) (out_2 ++ [(List.set (List.set (List.replicate 2 0) 0 t22_1) 1 t27_2)]))) else (inI (t27_2 + (1 : Int)) ∧ Λ2 t22_1 (t27_2 + (1 : Int)) out_2))))) else (false = false ∧ (inI (t27_2 + (1 : Int)) ∧ Λ2 t22_1 (t27_2 + (1 : Int)) out_2))))) else (inI (t22_1 + (1 : Int)) ∧ Λ1 (t22_1 + (1 : Int)) out_2)
theorem cLosses7_law (h : ∀ (p : (List Lin)) (h : (List (List Edt))) (l : (List Tst)), cLosses7.A.wf (p, h, l, ()) → ∀ (Λ1 : Int → (List (List Int)) → Prop) (Λ2 : Int → Int → (List (List Int)) → Prop), (∀ (t22_1 : Int) (out_1 : (List (List Int))), cLosses7_1 Λ1 Λ2 p h l (if err7t p h l = 0 then lossTo p h l h.length else []) (err7t p h l) t22_1 out_1 → Λ1 t22_1 out_1) → (∀ (t22_1 : Int) (t27_2 : Int) (out_2 : (List (List Int))), cLosses7_2 Λ1 Λ2 p h l (if err7t p h l = 0 then lossTo p h l h.length else []) (err7t p h l) t22_1 t27_2 out_2 → Λ2 t22_1 t27_2 out_2) → cLosses7_0 Λ1 Λ2 p h l (if err7t p h l = 0 then lossTo p h l h.length else []) (err7t p h l)) : ConOK Go.Proofs.Try.prog 47 cLosses7 := by
  refine lawL (Γ := [(86, cPass7), (85, cTested7)]) (Θ := Th) (n := 55) [([1, 1, 1, 0, 1, 0], ⟨[(0, false), (1, false), (2, false), (9, true), (21, true), (22, true)], [(9, true)]⟩), ([1, 1, 1, 0, 1, 0, 0, 1, 1, 0, 0, 1, 1, 0], ⟨[(0, false), (1, false), (2, false), (9, true), (10, true), (21, true), (22, true), (25, false), (26, true), (27, true)], [(9, true)]⟩)] ⟨cPass7_ok, cTested7_ok, trivial⟩ (by kernel_rfl) th_ok mix_ok Go.Proofs.Try.func47 (by kernel_rfl) ?_
  intro x hw hp Λ hC
  have h0 := h x.1 x.2.1 x.2.2.1 hw (fun t22_1 out_1 => Λ [1, 1, 1, 0, 1, 0] ([(0, .d false (.sl tL) x.1), (1, .d false (.sl (.sl tEd)) x.2.1), (2, .d false (.sl tTs) x.2.2.1), (9, .own 9 0), (21, .d true .int (List.length x.2.1 : Int)), (22, .d true .int t22_1)], [(9, .sl true (.arr 2 .int) out_1)])) (fun t22_1 t27_2 out_2 => Λ [1, 1, 1, 0, 1, 0, 0, 1, 1, 0, 0, 1, 1, 0] ([(0, .d false (.sl tL) x.1), (1, .d false (.sl (.sl tEd)) x.2.1), (2, .d false (.sl tTs) x.2.2.1), (9, .own 9 0), (10, .d true .int t22_1), (21, .d true .int (List.length x.2.1 : Int)), (22, .d true .int t22_1), (25, .d false (.sl tTs) x.2.2.1), (26, .d true .int (List.length x.2.2.1 : Int)), (27, .d true .int t27_2)], [(9, .sl true (.arr 2 .int) out_2)])) (fun t22_1 out_1 hb => hC [1, 1, 1, 0, 1, 0] ([(0, .d false (.sl tL) x.1), (1, .d false (.sl (.sl tEd)) x.2.1), (2, .d false (.sl tTs) x.2.2.1), (9, .own 9 0), (21, .d true .int (List.length x.2.1 : Int)), (22, .d true .int t22_1)], [(9, .sl true (.arr 2 .int) out_1)]) (Eq.mpr (by kernel_rfl) hb)) (fun t22_1 t27_2 out_2 hb => hC [1, 1, 1, 0, 1, 0, 0, 1, 1, 0, 0, 1, 1, 0] ([(0, .d false (.sl tL) x.1), (1, .d false (.sl (.sl tEd)) x.2.1), (2, .d false (.sl tTs) x.2.2.1), (9, .own 9 0), (10, .d true .int t22_1), (21, .d true .int (List.length x.2.1 : Int)), (22, .d true .int t22_1), (25, .d false (.sl tTs) x.2.2.1), (26, .d true .int (List.length x.2.2.1 : Int)), (27, .d true .int t27_2)], [(9, .sl true (.arr 2 .int) out_2)]) (Eq.mpr (by kernel_rfl) hb))
  exact Eq.mpr (by kernel_rfl) h0
theorem cLosses7_ok : ConOK Go.Proofs.Try.prog 47 cLosses7 := by
  refine cLosses7_law ?_
  intro p h l hw Λ1 Λ2 h1 h2
  unfold cLosses7_0
  refine ⟨trivial, ?_⟩
  by_cases e : err7t p h l = 0
  · rw [if_neg (by simp [e])]
    obtain ⟨g1, g2⟩ := err7t_ok e
    obtain ⟨e1, e2, e3, e4⟩ := err7_ok g1
    have l8 := (validT_ok g2).1
    refine upto (n := h.length) (Q := fun i => Λ1 (i : Int) (lossTo p h l i)) ?_ ?_ 0 (Nat.zero_le _)
    · apply h1; unfold cLosses7_1; rw [if_neg (by simp), if_pos e]
      exact ⟨rfl, e.symm, trivial⟩
    · intro i hi ih
      apply h1; unfold cLosses7_1; rw [if_pos (by simpa using hi)]
      have hsm := lossTo_small (p := p) e2 l8 (n := i) (by omega)
      rw [show lossTo p h l (i + 1) = lossTo p h l i ++ lossK p h l i l.length from rfl] at ih
      have st : Λ2 (i : Int) ((0 : Nat) : Int) (lossTo p h l i ++ lossK p h l i 0) := by
        refine upto (n := l.length) (Q := fun k => Λ2 (i : Int) (k : Int) (lossTo p h l i ++ lossK p h l i k)) ?_ ?_ 0 (Nat.zero_le _)
        · apply h2; unfold cLosses7_2; rw [if_neg (by simp)]
          exact ⟨inI_succ hi (by omega), ih⟩
        · intro k hk ihk
          have hle := lossK_len p h l i k
          rw [show lossK p h l i (k + 1) = lossK p h l i k ++ if okAt p h (l.getD k tTs.dflt) i = true then (if okAt p h (l.getD k tTs.dflt) (i + 1) = true then [] else [pairI i k]) else [] from rfl, ← List.append_assoc] at ihk
          apply h2; unfold cLosses7_2
          rw [if_pos (by simpa using hk), Int.toNat_natCast, Int.toNat_natCast]
          have ei : ((i : Int) + 1).toNat = i + 1 := by omega
          rw [ei]
          refine ⟨idx_nat hk, ⟨g1, by omega, by omega⟩, ?_⟩
          by_cases c1 : okAt p h (l.getD k tTs.dflt) i = true
          · rw [if_pos c1] at ihk ⊢
            refine ⟨inI_succ hi (by omega), ⟨g1, by omega, by omega⟩, trivial, ?_⟩
            by_cases c2 : okAt p h (l.getD k tTs.dflt) (i + 1) = true
            · rw [if_pos c2, List.append_nil] at ihk
              rw [if_neg (by rw [c2]; simp)]
              exact ⟨inI_succ hk (by omega), ihk⟩
            · rw [if_neg c2] at ihk
              rw [if_pos (by rw [Bool.eq_false_iff.2 c2]; rfl)]
              exact ⟨by rw [List.length_append]; simp only [List.length_cons, List.length_nil]; omega, inI_succ hk (by omega), ihk⟩
          · rw [if_neg c1, List.append_nil] at ihk
            rw [if_neg c1]
            exact ⟨rfl, inI_succ hk (by omega), ihk⟩
      rw [show lossK p h l i 0 = [] from rfl, List.append_nil] at st
      exact st
  · rw [if_pos (by simpa using e), if_neg e]
    exact ⟨rfl, rfl, trivial⟩
abbrev cLosses7R : Con := { A := (.cons (.sl tL) (.cons (.sl (.sl tEd)) (.cons (.sl tTs) .nil))), R := (.cons (.sl (.arr 2 .int)) (.cons .int .nil)), pre := fun x => True, F := fun x => ((if err7t x.1 x.2.1 x.2.2.1 = 0 then lossTo x.1 x.2.1 x.2.2.1 x.2.1.length else []), err7t x.1 x.2.1 x.2.2.1, ()) }
def cLosses7R_0 (Λ1 : Int → (List (List Int)) → Prop) (Λ2 : Int → Int → (List (List Int)) → Prop) (p : (List Lin)) (h : (List (List Edt))) (l : (List Tst)) (y0 : (List (List Int))) (y1 : Int) : Prop :=
  True ∧ (if ((err7t p h l) != (0 : Int)) = true then (([] : List (List Int)) = y0 ∧ (err7t p h l) = y1 ∧ True) else Λ1 (0 : Int) ([] : List (List Int)))
def cLosses7R_1 (Λ1 : Int → (List (List Int)) → Prop) (Λ2 : Int → Int → (List (List Int)) → Prop) (p : (List Lin)) (h : (List (List Edt))) (l : (List Tst)) (y0 : (List (List Int))) (y1 : Int)  (n_1 : Int) (out_1 : (List (List Int))) : Prop :=
  if (decide (n_1 < (List.length h : Int))) = true then Λ2 n_1 (0 : Int) out_1 else (out_1 = y0 ∧ (0 : Int) = y1 ∧ True)
def cLosses7R_2 (Λ1 : Int → (List (List Int)) → Prop) (Λ2 : Int → Int → (List (List Int)) → Prop) (p : (List Lin)) (h : (List (List Edt))) (l : (List Tst)) (y0 : (List (List Int))) (y1 : Int) (n_1 : Int) (k_2 : Int) (out_2 : (List (List Int))) : Prop :=
  if (decide (k_2 < (List.length l : Int))) = true then (idx k_2 (List.length l : Int) ∧ (err7 p h = 0 ∧ (idx n_1 (List.length (oksTo p h (List.getD l (Int.toNat k_2) tTs.dflt) (h.length + 1)) : Int) ∧ (if (List.getD (oksTo p h (List.getD l (Int.toNat k_2) tTs.dflt) (h.length + 1)) (Int.toNat n_1) false) = true then (inI (n_1 + (1 : Int)) ∧ (idx (n_1 + (1 : Int)) (List.length (oksTo p h (List.getD l (Int.toNat k_2) tTs.dflt) (h.length + 1)) : Int) ∧ (True ∧ (if (bif true then (!(List.getD (oksTo p h (List.getD l (Int.toNat k_2) tTs.dflt) (h.length + 1)) (Int.toNat (n_1 + (1 : Int))) false)) else false) = true then (List.length out_2 + List.length [(List.set (List.set (List.replicate 2 0) 0 n_1) 1 k_2)] ≤ 4294967296 ∧ (inI (k_2 + (1 : Int)) ∧ Λ2 n_1 (k_2 + (1 : Int)) (out_2 ++ [(List.set (List.set (List.replicate 2 0) 0 n_1) 1 k_2)]))) else (inI (k_2 + (1 : Int)) ∧ Λ2 n_1 (k_2 + (1 : Int)) out_2))))) else (false = false ∧ (inI (k_2 + (1 : Int)) ∧ Λ2 n_1 (k_2 + (1 : Int)) out_2)))))) else (inI (n_1 + (1 : Int)) ∧ Λ1 (n_1 + (1 : Int)) out_2)
theorem cLosses7R_law (h : ∀ (p : (List Lin)) (h : (List (List Edt))) (l : (List Tst)), cLosses7R.A.wf (p, h, l, ()) → ∀ (Λ1 : Int → (List (List Int)) → Prop) (Λ2 : Int → Int → (List (List Int)) → Prop), (∀ (n_1 : Int) (out_1 : (List (List Int))), cLosses7R_1 Λ1 Λ2 p h l (if err7t p h l = 0 then lossTo p h l h.length else []) (err7t p h l) n_1 out_1 → Λ1 n_1 out_1) → (∀ (n_1 : Int) (k_2 : Int) (out_2 : (List (List Int))), cLosses7R_2 Λ1 Λ2 p h l (if err7t p h l = 0 then lossTo p h l h.length else []) (err7t p h l) n_1 k_2 out_2 → Λ2 n_1 k_2 out_2) → cLosses7R_0 Λ1 Λ2 p h l (if err7t p h l = 0 then lossTo p h l h.length else []) (err7t p h l)) : ConOK Go.Proofs.Try.prog 48 cLosses7R := by
  refine lawL (Γ := [(88, cPass7R), (87, cTested7R)]) (Θ := Th) (n := 58) [([1, 1, 1, 1, 0, 1, 0], ⟨[(0, false), (1, false), (2, false), (9, true), (10, true)], [(9, true)]⟩), ([1, 1, 1, 1, 0, 1, 0, 0, 1, 0, 0, 1, 0], ⟨[(0, false), (1, false), (2, false), (9, true), (10, true), (11, true)], [(9, true)]⟩)] ⟨cPass7R_ok, cTested7R_ok, trivial⟩ (by kernel_rfl) th_ok mix_ok Go.Proofs.Try.func48 (by kernel_rfl) ?_
  intro x hw hp Λ hC
  have h0 := h x.1 x.2.1 x.2.2.1 hw (fun n_1 out_1 => Λ [1, 1, 1, 1, 0, 1, 0] ([(0, .d false (.sl tL) x.1), (1, .d false (.sl (.sl tEd)) x.2.1), (2, .d false (.sl tTs) x.2.2.1), (9, .own 9 0), (10, .d true .int n_1)], [(9, .sl true (.arr 2 .int) out_1)])) (fun n_1 k_2 out_2 => Λ [1, 1, 1, 1, 0, 1, 0, 0, 1, 0, 0, 1, 0] ([(0, .d false (.sl tL) x.1), (1, .d false (.sl (.sl tEd)) x.2.1), (2, .d false (.sl tTs) x.2.2.1), (9, .own 9 0), (10, .d true .int n_1), (11, .d true .int k_2)], [(9, .sl true (.arr 2 .int) out_2)])) (fun n_1 out_1 hb => hC [1, 1, 1, 1, 0, 1, 0] ([(0, .d false (.sl tL) x.1), (1, .d false (.sl (.sl tEd)) x.2.1), (2, .d false (.sl tTs) x.2.2.1), (9, .own 9 0), (10, .d true .int n_1)], [(9, .sl true (.arr 2 .int) out_1)]) (Eq.mpr (by kernel_rfl) hb)) (fun n_1 k_2 out_2 hb => hC [1, 1, 1, 1, 0, 1, 0, 0, 1, 0, 0, 1, 0] ([(0, .d false (.sl tL) x.1), (1, .d false (.sl (.sl tEd)) x.2.1), (2, .d false (.sl tTs) x.2.2.1), (9, .own 9 0), (10, .d true .int n_1), (11, .d true .int k_2)], [(9, .sl true (.arr 2 .int) out_2)]) (Eq.mpr (by kernel_rfl) hb))
  exact Eq.mpr (by kernel_rfl) h0
theorem cLosses7R_ok : ConOK Go.Proofs.Try.prog 48 cLosses7R := by
  refine cLosses7R_law ?_
  intro p h l hw Λ1 Λ2 h1 h2
  unfold cLosses7R_0
  refine ⟨trivial, ?_⟩
  by_cases e : err7t p h l = 0
  · rw [if_neg (by simp [e])]
    obtain ⟨g1, g2⟩ := err7t_ok e
    obtain ⟨e1, e2, e3, e4⟩ := err7_ok g1
    have l8 := (validT_ok g2).1
    refine upto (n := h.length) (Q := fun i => Λ1 (i : Int) (lossTo p h l i)) ?_ ?_ 0 (Nat.zero_le _)
    · apply h1; unfold cLosses7R_1; rw [if_neg (by simp), if_pos e]
      exact ⟨rfl, e.symm, trivial⟩
    · intro i hi ih
      apply h1; unfold cLosses7R_1; rw [if_pos (by simpa using hi)]
      have hsm := lossTo_small (p := p) e2 l8 (n := i) (by omega)
      rw [show lossTo p h l (i + 1) = lossTo p h l i ++ lossK p h l i l.length from rfl] at ih
      have st : Λ2 (i : Int) ((0 : Nat) : Int) (lossTo p h l i ++ lossK p h l i 0) := by
        refine upto (n := l.length) (Q := fun k => Λ2 (i : Int) (k : Int) (lossTo p h l i ++ lossK p h l i k)) ?_ ?_ 0 (Nat.zero_le _)
        · apply h2; unfold cLosses7R_2; rw [if_neg (by simp)]
          exact ⟨inI_succ hi (by omega), ih⟩
        · intro k hk ihk
          have hle := lossK_len p h l i k
          rw [show lossK p h l i (k + 1) = lossK p h l i k ++ if okAt p h (l.getD k tTs.dflt) i = true then (if okAt p h (l.getD k tTs.dflt) (i + 1) = true then [] else [pairI i k]) else [] from rfl, ← List.append_assoc] at ihk
          apply h2; unfold cLosses7R_2
          rw [if_pos (by simpa using hk), Int.toNat_natCast, Int.toNat_natCast]
          have ei : ((i : Int) + 1).toNat = i + 1 := by omega
          rw [ei, oksTo_len, oksTo_get p h _ _ i (by omega), oksTo_get p h _ _ (i + 1) (by omega)]
          refine ⟨idx_nat hk, g1, ⟨by omega, by omega⟩, ?_⟩
          by_cases c1 : okAt p h (l.getD k tTs.dflt) i = true
          · rw [if_pos c1] at ihk ⊢
            refine ⟨inI_succ hi (by omega), ⟨by omega, by omega⟩, trivial, ?_⟩
            by_cases c2 : okAt p h (l.getD k tTs.dflt) (i + 1) = true
            · rw [if_pos c2, List.append_nil] at ihk
              rw [if_neg (by rw [c2]; simp)]
              exact ⟨inI_succ hk (by omega), ihk⟩
            · rw [if_neg c2] at ihk
              rw [if_pos (by rw [Bool.eq_false_iff.2 c2]; rfl)]
              exact ⟨by rw [List.length_append]; simp only [List.length_cons, List.length_nil]; omega, inI_succ hk (by omega), ihk⟩
          · rw [if_neg c1, List.append_nil] at ihk
            rw [if_neg c1]
            exact ⟨rfl, inI_succ hk (by omega), ihk⟩
      rw [show lossK p h l i 0 = [] from rfl, List.append_nil] at st
      exact st
  · rw [if_pos (by simpa using e), if_neg e]
    exact ⟨rfl, rfl, trivial⟩
end Go.Tk
