import Derived.Test.YthjkkjnnkkekeaaC7g
set_option linter.unusedSimpArgs false
set_option linter.unusedVariables false
set_option linter.unnecessarySimpa false
namespace Go.Tk
open Go Go.RowKit

/-- Halving: from a on it is as at the beginning, at b it is not. -/
def bisT (p : List Lin) (h : List (List Edt)) (t : Tst) : Nat → Nat → Nat → Nat
  | 0, a, _ => a
  | f + 1, a, b => if b - a > 1 then (if (okAt p h t ((a + b) / 2) == okAt p h t 0) = true then bisT p h t f ((a + b) / 2) b else bisT p h t f a ((a + b) / 2)) else a
def bisN (p : List Lin) (h : List (List Edt)) (t : Tst) : Int := if err7t p h [t] = 0 then (if (okAt p h t h.length == okAt p h t 0) = true then 0 else (bisT p h t h.length 0 h.length : Int)) else 0
def bisE (p : List Lin) (h : List (List Edt)) (t : Tst) : Int := if err7t p h [t] = 0 then (if (okAt p h t h.length == okAt p h t 0) = true then 8 else 0) else err7t p h [t]

abbrev cBisect7 : Con := { A := (.cons (.sl tL) (.cons (.sl (.sl tEd)) (.cons tTs .nil))), R := (.cons .int (.cons .int .nil)), pre := fun x => True, F := fun x => (bisN x.1 x.2.1 x.2.2.1, bisE x.1 x.2.1 x.2.2.1, ()) }
def cBisect7_0 (Λ1 : Int → Int → Prop) (p : (List Lin)) (h : (List (List Edt))) (t : Tst) (y0 : Int) (y1 : Int) : Prop :=
  True ∧ (if ((err7t p h [t]) != (0 : Int)) = true then ((0 : Int) = y0 ∧ (err7t p h [t]) = y1 ∧ True) else ((err7 p h = 0 ∧ 0 ≤ (0 : Int) ∧ (0 : Int) ≤ (h.length : Int)) ∧ ((err7 p h = 0 ∧ 0 ≤ (List.length h : Int) ∧ (List.length h : Int) ≤ (h.length : Int)) ∧ (if ((okAt p h t (Int.toNat (List.length h : Int))) == (okAt p h t (Int.toNat (0 : Int)))) = true then ((0 : Int) = y0 ∧ (8 : Int) = y1 ∧ True) else Λ1 (0 : Int) (List.length h : Int)))))
def cBisect7_1 (Λ1 : Int → Int → Prop) (p : (List Lin)) (h : (List (List Edt))) (t : Tst) (y0 : Int) (y1 : Int)  (from_1 : Int) (to_1 : Int) : Prop :=
  inI (to_1 - from_1) ∧ (if (decide ((to_1 - from_1) > (1 : Int))) = true then (inI (from_1 + to_1) ∧ (((2 : Int) ≠ 0 ∧ inI (Int.tdiv (from_1 + to_1) (2 : Int))) ∧ ((err7 p h = 0 ∧ 0 ≤ (Int.tdiv (from_1 + to_1) (2 : Int)) ∧ (Int.tdiv (from_1 + to_1) (2 : Int)) ≤ (h.length : Int)) ∧ (if ((okAt p h t (Int.toNat (Int.tdiv (from_1 + to_1) (2 : Int)))) == (okAt p h t (Int.toNat (0 : Int)))) = true then Λ1 (Int.tdiv (from_1 + to_1) (2 : Int)) to_1 else Λ1 from_1 (Int.tdiv (from_1 + to_1) (2 : Int)))))) else (from_1 = y0 ∧ (0 : Int) = y1 ∧ True))
theorem cBisect7_law (h : ∀ (p : (List Lin)) (h : (List (List Edt))) (t : Tst), cBisect7.A.wf (p, h, t, ()) → ∀ (Λ1 : Int → Int → Prop), (∀ (from_1 : Int) (to_1 : Int), cBisect7_1 Λ1 p h t (bisN p h t) (bisE p h t) from_1 to_1 → Λ1 from_1 to_1) → cBisect7_0 Λ1 p h t (bisN p h t) (bisE p h t)) : ConOK Go.Proofs.Try.prog 50 cBisect7 := by
  refine lawL (Γ := [(86, cPass7), (85, cTested7)]) (Θ := Th) (n := 53) [([1, 1, 1, 1, 1, 0, 0], ⟨[(0, false), (1, false), (5, true), (9, true), (10, true), (11, true)], [(5, false)]⟩)] ⟨cPass7_ok, cTested7_ok, trivial⟩ (by kernel_rfl) th_ok mix_ok Go.Proofs.Try.func50 (by kernel_rfl) ?_
  intro x hw hp Λ hC
  have h0 := h x.1 x.2.1 x.2.2.1 hw (fun from_1 to_1 => Λ [1, 1, 1, 1, 1, 0, 0] ([(0, .d false (.sl tL) x.1), (1, .d false (.sl (.sl tEd)) x.2.1), (5, .ptr 5 0 []), (9, .d true .bool (okAt x.1 x.2.1 x.2.2.1 (Int.toNat (0 : Int)))), (10, .d true .int from_1), (11, .d true .int to_1)], [(5, .box false tTs x.2.2.1)])) (fun from_1 to_1 hb => hC [1, 1, 1, 1, 1, 0, 0] ([(0, .d false (.sl tL) x.1), (1, .d false (.sl (.sl tEd)) x.2.1), (5, .ptr 5 0 []), (9, .d true .bool (okAt x.1 x.2.1 x.2.2.1 (Int.toNat (0 : Int)))), (10, .d true .int from_1), (11, .d true .int to_1)], [(5, .box false tTs x.2.2.1)]) (Eq.mpr (by kernel_rfl) hb))
  exact Eq.mpr (by kernel_rfl) h0
theorem cBisect7_ok : ConOK Go.Proofs.Try.prog 50 cBisect7 := by
  refine cBisect7_law ?_
  intro p h t hw Λ1 h1
  unfold cBisect7_0
  refine ⟨trivial, ?_⟩
  unfold bisN bisE
  by_cases e : err7t p h [t] = 0
  · rw [if_neg (by simp [e]), if_pos e, if_pos e]
    obtain ⟨g1, g2⟩ := err7t_ok e
    obtain ⟨e1, e2, e3, e4⟩ := err7_ok g1
    refine ⟨⟨g1, by omega, by omega⟩, ⟨g1, by omega, by omega⟩, ?_⟩
    rw [Int.toNat_natCast]
    show if (okAt p h t h.length == okAt p h t 0) = true then _ else _
    by_cases c : (okAt p h t h.length == okAt p h t 0) = true
    · rw [if_pos c, if_pos c, if_pos c]; exact ⟨rfl, rfl, trivial⟩
    · rw [if_neg c]
      have key : ∀ f a b : Nat, b - a ≤ f → a ≤ b → b ≤ h.length → bisT p h t h.length 0 h.length = bisT p h t f a b → Λ1 (a : Int) (b : Int) := by
        intro f
        induction f with
        | zero =>
          intro a b hf hab hb ey
          apply h1; unfold cBisect7_1
          refine ⟨by unfold inI; omega, ?_⟩
          rw [if_neg (by rw [decide_eq_true_eq]; omega)]
          unfold bisN bisE
          rw [if_pos e, if_neg c, if_pos e, if_neg c, ey]
          exact ⟨rfl, rfl, trivial⟩
        | succ f ih =>
          intro a b hf hab hb ey
          rw [bisT] at ey
          apply h1; unfold cBisect7_1
          refine ⟨by unfold inI; omega, ?_⟩
          by_cases g : b - a > 1
          · rw [if_pos g] at ey
            rw [if_pos (by refine decide_eq_true ?_; omega)]
            have em : Int.tdiv ((a : Int) + b) 2 = (((a + b) / 2 : Nat) : Int) := by rw [Int.tdiv_eq_ediv_of_nonneg (by omega)]; omega
            rw [em, Int.toNat_natCast]
            refine ⟨by unfold inI; omega, ⟨by decide, by unfold inI; omega⟩, ⟨g1, by omega, by omega⟩, ?_⟩
            show if (okAt p h t ((a + b) / 2) == okAt p h t 0) = true then _ else _
            by_cases c2 : (okAt p h t ((a + b) / 2) == okAt p h t 0) = true
            · rw [if_pos c2] at ey ⊢
              exact ih _ _ (by omega) (by omega) hb ey
            · rw [if_neg c2] at ey ⊢
              exact ih _ _ (by omega) (by omega) (by omega) ey
          · rw [if_neg g] at ey
            rw [if_neg (by rw [decide_eq_true_eq]; omega)]
            unfold bisN bisE
            rw [if_pos e, if_neg c, if_pos e, if_neg c, ey]
            exact ⟨rfl, rfl, trivial⟩
      exact key h.length 0 h.length (by omega) (by omega) (Nat.le_refl _) rfl
  · rw [if_pos (by simpa using e), if_neg e, if_neg e]
    exact ⟨rfl, rfl, trivial⟩
abbrev cBisect7R : Con := { A := (.cons (.sl tL) (.cons (.sl (.sl tEd)) (.cons tTs .nil))), R := (.cons .int (.cons .int .nil)), pre := fun x => True, F := fun x => (bisN x.1 x.2.1 x.2.2.1, bisE x.1 x.2.1 x.2.2.1, ()) }
def cBisect7R_0 (Λ1 : Int → Int → Prop) (p : (List Lin)) (h : (List (List Edt))) (t : Tst) (y0 : Int) (y1 : Int) : Prop :=
  True ∧ (if ((err7t p h [t]) != (0 : Int)) = true then ((0 : Int) = y0 ∧ (err7t p h [t]) = y1 ∧ True) else (err7 p h = 0 ∧ (idx (0 : Int) (List.length (oksTo p h t (h.length + 1)) : Int) ∧ (idx (List.length h : Int) (List.length (oksTo p h t (h.length + 1)) : Int) ∧ (if ((List.getD (oksTo p h t (h.length + 1)) (Int.toNat (0 : Int)) false) == (List.getD (oksTo p h t (h.length + 1)) (Int.toNat (List.length h : Int)) false)) = true then ((0 : Int) = y0 ∧ (8 : Int) = y1 ∧ True) else Λ1 (0 : Int) (List.length h : Int))))))
def cBisect7R_1 (Λ1 : Int → Int → Prop) (p : (List Lin)) (h : (List (List Edt))) (t : Tst) (y0 : Int) (y1 : Int)  (from_1 : Int) (to_1 : Int) : Prop :=
  inI (to_1 - from_1) ∧ (if (decide ((to_1 - from_1) > (1 : Int))) = true then (inI (from_1 + to_1) ∧ (((2 : Int) ≠ 0 ∧ inI (Int.tdiv (from_1 + to_1) (2 : Int))) ∧ (idx (Int.tdiv (from_1 + to_1) (2 : Int)) (List.length (oksTo p h t (h.length + 1)) : Int) ∧ (idx (0 : Int) (List.length (oksTo p h t (h.length + 1)) : Int) ∧ (if ((List.getD (oksTo p h t (h.length + 1)) (Int.toNat (Int.tdiv (from_1 + to_1) (2 : Int))) false) == (List.getD (oksTo p h t (h.length + 1)) (Int.toNat (0 : Int)) false)) = true then Λ1 (Int.tdiv (from_1 + to_1) (2 : Int)) to_1 else Λ1 from_1 (Int.tdiv (from_1 + to_1) (2 : Int))))))) else (from_1 = y0 ∧ (0 : Int) = y1 ∧ True))
theorem cBisect7R_law (h : ∀ (p : (List Lin)) (h : (List (List Edt))) (t : Tst), cBisect7R.A.wf (p, h, t, ()) → ∀ (Λ1 : Int → Int → Prop), (∀ (from_1 : Int) (to_1 : Int), cBisect7R_1 Λ1 p h t (bisN p h t) (bisE p h t) from_1 to_1 → Λ1 from_1 to_1) → cBisect7R_0 Λ1 p h t (bisN p h t) (bisE p h t)) : ConOK Go.Proofs.Try.prog 51 cBisect7R := by
  refine lawL (Γ := [(88, cPass7R), (87, cTested7R)]) (Θ := Th) (n := 55) [([1, 1, 1, 1, 1, 1, 0, 0], ⟨[(9, true), (10, true), (11, true)], [(24, true)]⟩)] ⟨cPass7R_ok, cTested7R_ok, trivial⟩ (by kernel_rfl) th_ok mix_ok Go.Proofs.Try.func51 (by kernel_rfl) ?_
  intro x hw hp Λ hC
  have h0 := h x.1 x.2.1 x.2.2.1 hw (fun from_1 to_1 => Λ [1, 1, 1, 1, 1, 1, 0, 0] ([(9, .own 24 0), (10, .d true .int from_1), (11, .d true .int to_1)], [(24, .sl true .bool (oksTo x.1 x.2.1 x.2.2.1 (x.2.1.length + 1)))])) (fun from_1 to_1 hb => hC [1, 1, 1, 1, 1, 1, 0, 0] ([(9, .own 24 0), (10, .d true .int from_1), (11, .d true .int to_1)], [(24, .sl true .bool (oksTo x.1 x.2.1 x.2.2.1 (x.2.1.length + 1)))]) (Eq.mpr (by kernel_rfl) hb))
  exact Eq.mpr (by kernel_rfl) h0
theorem cBisect7R_ok : ConOK Go.Proofs.Try.prog 51 cBisect7R := by
  refine cBisect7R_law ?_
  intro p h t hw Λ1 h1
  unfold cBisect7R_0
  refine ⟨trivial, ?_⟩
  unfold bisN bisE
  by_cases e : err7t p h [t] = 0
  · rw [if_neg (by simp [e]), if_pos e, if_pos e]
    obtain ⟨g1, g2⟩ := err7t_ok e
    obtain ⟨e1, e2, e3, e4⟩ := err7_ok g1
    rw [oksTo_len, Int.toNat_natCast, oksTo_get p h t _ h.length (by omega), show (Int.toNat (0 : Int)) = 0 from rfl, oksTo_get p h t _ 0 (by omega)]
    refine ⟨g1, ⟨by omega, by omega⟩, ⟨by omega, by omega⟩, ?_⟩
    rw [show (okAt p h t 0 == okAt p h t h.length) = (okAt p h t h.length == okAt p h t 0) from BEq.comm]
    by_cases c : (okAt p h t h.length == okAt p h t 0) = true
    · rw [if_pos c, if_pos c, if_pos c]; exact ⟨rfl, rfl, trivial⟩
    · rw [if_neg c]
      have key : ∀ f a b : Nat, b - a ≤ f → a ≤ b → b ≤ h.length → bisT p h t h.length 0 h.length = bisT p h t f a b → Λ1 (a : Int) (b : Int) := by
        intro f
        induction f with
        | zero =>
          intro a b hf hab hb ey
          apply h1; unfold cBisect7R_1
          refine ⟨by unfold inI; omega, ?_⟩
          rw [if_neg (by rw [decide_eq_true_eq]; omega)]
          unfold bisN bisE
          rw [if_pos e, if_neg c, if_pos e, if_neg c, ey]
          exact ⟨rfl, rfl, trivial⟩
        | succ f ih =>
          intro a b hf hab hb ey
          rw [bisT] at ey
          apply h1; unfold cBisect7R_1
          refine ⟨by unfold inI; omega, ?_⟩
          by_cases g : b - a > 1
          · rw [if_pos g] at ey
            rw [if_pos (by refine decide_eq_true ?_; omega)]
            have em : Int.tdiv ((a : Int) + b) 2 = (((a + b) / 2 : Nat) : Int) := by rw [Int.tdiv_eq_ediv_of_nonneg (by omega)]; omega
            rw [em, Int.toNat_natCast]
            rw [oksTo_len, oksTo_get p h t _ _ (by omega), show (Int.toNat (0 : Int)) = 0 from rfl, oksTo_get p h t _ 0 (by omega)]
            refine ⟨by unfold inI; omega, ⟨by decide, by unfold inI; omega⟩, ⟨by omega, by omega⟩, ⟨by omega, by omega⟩, ?_⟩
            show if (okAt p h t ((a + b) / 2) == okAt p h t 0) = true then _ else _
            by_cases c2 : (okAt p h t ((a + b) / 2) == okAt p h t 0) = true
            · rw [if_pos c2] at ey ⊢
              exact ih _ _ (by omega) (by omega) hb ey
            · rw [if_neg c2] at ey ⊢
              exact ih _ _ (by omega) (by omega) (by omega) ey
          · rw [if_neg g] at ey
            rw [if_neg (by rw [decide_eq_true_eq]; omega)]
            unfold bisN bisE
            rw [if_pos e, if_neg c, if_pos e, if_neg c, ey]
            exact ⟨rfl, rfl, trivial⟩
      exact key h.length 0 h.length (by omega) (by omega) (Nat.le_refl _) rfl
  · rw [if_pos (by simpa using e), if_neg e, if_neg e]
    exact ⟨rfl, rfl, trivial⟩

end Go.Tk
