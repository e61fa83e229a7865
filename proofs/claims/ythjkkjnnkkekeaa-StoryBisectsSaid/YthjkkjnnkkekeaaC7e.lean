import Derived.Test.YthjkkjnnkkekeaaC7d
set_option linter.unusedSimpArgs false
set_option linter.unusedVariables false
set_option linter.unnecessarySimpa false
namespace Go.Tk
open Go Go.RowKit

theorem validX_line {x : List Edt} (h : validX x = 0) : ∀ e ∈ x, validLine e.2.1 = true := by
  unfold validX at h
  split at h
  · omega
  · intro e he
    obtain ⟨i, hi, rfl⟩ := List.getElem_of_mem he
    have g := okTo_at _ (argErr_zero.1 h) i hi
    unfold edOK at g
    have ee : x.getD i tEd.dflt = x[i] := by simp [List.getD_eq_getElem?_getD, hi]
    rw [ee] at g
    simp at g
    exact g.2
theorem errH_valid {n : Nat} : ∀ {h : List (List Edt)}, errH n h = 0 → ∀ x ∈ h, validX x = 0
  | [], _ => fun x hx => by simp at hx
  | x :: hs, e => by
    unfold errH at e
    split at e
    · rename_i hv
      split at e
      · cases e
      · intro y hy
        rcases List.mem_cons.1 hy with rfl | hy
        · exact hv
        · exact errH_valid e y hy
    · rename_i hv; exact absurd e hv
theorem playX_all (x : List Edt) : ∀ p : List Lin, p.all validLine = true → (∀ e ∈ x, validLine e.2.1 = true) → (playX p x).all validLine = true := by
  induction x with
  | nil => intro p hp _; exact hp
  | cons e x ih =>
    intro p hp hx
    refine ih _ ?_ (fun q hq => hx q (List.mem_cons_of_mem _ hq))
    rw [List.all_eq_true] at hp ⊢
    intro l hl
    rcases List.mem_or_eq_of_mem_set hl with g | g
    · exact hp l g
    · rw [g]; exact hx e List.mem_cons_self
theorem playH_all (h : List (List Edt)) : ∀ p : List Lin, p.all validLine = true → (∀ x ∈ h, ∀ e ∈ x, validLine e.2.1 = true) → (playH p h).all validLine = true := by
  induction h with
  | nil => intro p hp _; exact hp
  | cons x h ih =>
    intro p hp hx
    exact ih _ (playX_all x p hp (hx x List.mem_cons_self)) (fun y hy => hx y (List.mem_cons_of_mem _ hy))
theorem playH_valid {p : List Lin} {h : List (List Edt)} (e : err7 p h = 0) (n : Nat) : validP (playH p (h.take n)) = 0 := by
  obtain ⟨e1, e2, _, _⟩ := err7_ok e
  obtain ⟨h8, hall⟩ := validP_ok e1
  have he : errH p.length h = 0 := by
    unfold err7 at e
    rw [if_pos e1, if_neg (by omega)] at e
    exact e
  have g := playH_all (h.take n) p hall (fun x hx => validX_line (errH_valid he x (List.mem_of_mem_take hx)))
  unfold validP
  rw [playH_len, if_neg (by omega), g]; rfl
theorem bisT_spec (p : List Lin) (h : List (List Edt)) (t : Tst) : ∀ f a b, b - a ≤ f → a < b → okAt p h t a = okAt p h t 0 → okAt p h t b ≠ okAt p h t 0 →
    bisT p h t f a b < b ∧ okAt p h t (bisT p h t f a b) = okAt p h t 0 ∧ okAt p h t (bisT p h t f a b + 1) ≠ okAt p h t 0
  | 0, a, b, h0, h1, _, _ => by omega
  | f + 1, a, b, h0, h1, ha, hb => by
    rw [bisT]
    by_cases g : b - a > 1
    · rw [if_pos g]
      by_cases c : (okAt p h t ((a + b) / 2) == okAt p h t 0) = true
      · rw [if_pos c]
        exact bisT_spec p h t f _ b (by omega) (by omega) (eq_of_beq c) hb
      · rw [if_neg c]
        obtain ⟨i1, i2, i3⟩ := bisT_spec p h t f a ((a + b) / 2) (by omega) (by omega) ha (fun q => c (by rw [q]; simp))
        exact ⟨by omega, i2, i3⟩
    · rw [if_neg g]
      have : b = a + 1 := by omega
      subst this
      exact ⟨by omega, ha, hb⟩

abbrev cStoryBisects : Con := { A := (.cons (.sl tL) (.cons (.sl (.sl tEd)) (.cons tTs .nil))), R := (.cons .bool .nil), pre := fun x => True, F := fun x => (true, ()) }
def cStoryBisects_0  (p : (List Lin)) (h : (List (List Edt))) (t : Tst) (y0 : Bool) : Prop :=
  True ∧ (if (decide (∃ x' ∈ h, 50 < x'.length) || decide (100 < p.length) || decide (50 < h.length)) = true then (true = true ∧ (True ∧ (true = y0 ∧ True))) else (True ∧ (if (bif false then true else (decide ((List.length t.1 : Int) > (50 : Int)))) = true then (True ∧ (true = y0 ∧ True)) else (True ∧ (True ∧ (if ((bisN p h t) != (bisN p h t)) = true then (true = true ∧ (false = y0 ∧ True)) else (True ∧ (if (bif false then true else ((bisE p h t) != (bisE p h t))) = true then (false = y0 ∧ True) else (if ((bisE p h t) != (0 : Int)) = true then (True ∧ (true = y0 ∧ True)) else (True ∧ (inI ((bisN p h t) + (1 : Int)) ∧ (True ∧ (True ∧ (True ∧ (if (((if err7 p h = 0 then argErr (within (bisN p h t) 0 (h.length : Int)) else err7 p h)) == (0 : Int)) = true then (True ∧ (if (bif true then (((if err7 p h = 0 then argErr (within ((bisN p h t) + (1 : Int)) 0 (h.length : Int)) else err7 p h)) == (0 : Int)) else false) = true then (True ∧ (if (bif true then ((errT [((if err7 p h = 0 ∧ within (bisN p h t) 0 (h.length : Int) = true then playH p (h.take (Int.toNat (bisN p h t))) else []))] [t]) == (0 : Int)) else false) = true then (True ∧ (if (bif true then ((errT [((if err7 p h = 0 ∧ within ((bisN p h t) + (1 : Int)) 0 (h.length : Int) = true then playH p (h.take (Int.toNat ((bisN p h t) + (1 : Int)))) else []))] [t]) == (0 : Int)) else false) = true then (True ∧ (if (bif true then (!(((errT [((if err7 p h = 0 ∧ within (bisN p h t) 0 (h.length : Int) = true then playH p (h.take (Int.toNat (bisN p h t))) else []))] [t] == 0 && passT ((if err7 p h = 0 ∧ within (bisN p h t) 0 (h.length : Int) = true then playH p (h.take (Int.toNat (bisN p h t))) else [])) t)) == ((errT [((if err7 p h = 0 ∧ within ((bisN p h t) + (1 : Int)) 0 (h.length : Int) = true then playH p (h.take (Int.toNat ((bisN p h t) + (1 : Int)))) else []))] [t] == 0 && passT ((if err7 p h = 0 ∧ within ((bisN p h t) + (1 : Int)) 0 (h.length : Int) = true then playH p (h.take (Int.toNat ((bisN p h t) + (1 : Int)))) else [])) t)))) else false) = true then (True ∧ (True ∧ ((bif true then true else false) = y0 ∧ True))) else (false = false ∧ (false = y0 ∧ True)))) else (false = false ∧ (false = false ∧ (false = y0 ∧ True))))) else (false = false ∧ (false = false ∧ (false = false ∧ (false = y0 ∧ True)))))) else (false = false ∧ (false = false ∧ (false = false ∧ (false = false ∧ (false = y0 ∧ True))))))) else (false = false ∧ (false = false ∧ (false = false ∧ (false = false ∧ (false = false ∧ (false = y0 ∧ True)))))))))))))))))))))
theorem cStoryBisects_law (h : ∀ (p : (List Lin)) (h : (List (List Edt))) (t : Tst), cStoryBisects.A.wf (p, h, t, ()) → cStoryBisects_0  p h t true) : ConOK Go.Proofs.Try.prog 13 cStoryBisects := by
  refine lawL (Γ := [(30, cAt7), (50, cBisect7), (51, cBisect7R), (15, cLong7), (52, cPasses), (16, cSane7)]) (Θ := Th) (n := 103) [] ⟨cAt7_ok, cBisect7_ok, cBisect7R_ok, cLong7_ok, cPasses_ok, cSane7_ok, trivial⟩ (by kernel_rfl) th_ok mix_ok Go.Proofs.Try.func13 (by kernel_rfl) ?_
  intro x hw hp Λ hC
  have h0 := h x.1 x.2.1 x.2.2.1 hw  
  exact Eq.mpr (by kernel_rfl) h0
theorem cStoryBisects_ok : ConOK Go.Proofs.Try.prog 13 cStoryBisects := by
  refine cStoryBisects_law ?_
  intro p h t hw
  unfold cStoryBisects_0
  cases c : (decide (∃ x' ∈ h, 50 < x'.length) || decide (100 < p.length) || decide (50 < h.length))
  · refine ⟨trivial, ?_⟩
    rw [if_neg (by simp)]
    refine ⟨trivial, ?_⟩
    by_cases c2 : (t.1.length : Int) > 50
    · rw [if_pos (by refine decide_eq_true ?_; exact c2)]
      exact ⟨trivial, rfl, trivial⟩
    · rw [if_neg (by show ¬ decide _ = true; rw [decide_eq_true_eq]; exact c2)]
      refine ⟨trivial, trivial, ?_⟩
      rw [if_neg (by simp)]
      refine ⟨trivial, ?_⟩
      rw [if_neg (by simp)]
      by_cases e : bisE p h t = 0
      · rw [if_neg (by simp [e])]
        refine ⟨trivial, ?_⟩
        have e0 : err7t p h [t] = 0 := by
          unfold bisE at e
          split at e
          · assumption
          · assumption
        obtain ⟨g1, g2⟩ := err7t_ok e0
        obtain ⟨e1, e2, e3, e4⟩ := err7_ok g1
        have hne : ¬ (okAt p h t h.length == okAt p h t 0) = true := fun q => by
          unfold bisE at e; rw [if_pos e0, if_pos q] at e; cases e
        have hb : bisN p h t = (bisT p h t h.length 0 h.length : Nat) := by unfold bisN; rw [if_pos e0, if_neg hne]
        have hpos : 0 < h.length := by
          rcases Nat.eq_zero_or_pos h.length with z | z
          · rw [z] at hne; simp at hne
          · exact z
        obtain ⟨s1, s2, s3⟩ := bisT_spec p h t h.length 0 h.length (by omega) hpos rfl (fun q => hne (by rw [q]; simp))
        rw [hb]
        generalize bisT p h t h.length 0 h.length = r at s1 s2 s3
        have w1 : within (r : Int) 0 (h.length : Int) = true := within_iff.2 ⟨by omega, by omega⟩
        have w2 : within ((r : Int) + 1) 0 (h.length : Int) = true := within_iff.2 ⟨by omega, by omega⟩
        have er : ((r : Int) + 1).toNat = r + 1 := by omega
        have q1 : errT [playH p (h.take r)] [t] = 0 := by rw [errT_cases, if_pos (playH_valid g1 r), g2]
        have q2 : errT [playH p (h.take (r + 1))] [t] = 0 := by rw [errT_cases, if_pos (playH_valid g1 (r + 1)), g2]
        have fin : (!((errT [playH p (h.take r)] [t] == 0 && passT (playH p (h.take r)) t) == (errT [playH p (h.take (r + 1))] [t] == 0 && passT (playH p (h.take (r + 1))) t))) = true := by
          show (!(okAt p h t r == okAt p h t (r + 1))) = true
          rw [s2]
          cases k1 : okAt p h t 0 <;> cases k2 : okAt p h t (r + 1) <;> first | rfl | (exfalso; exact s3 (by rw [k1, k2]))
        refine ⟨by unfold inI; omega, trivial, trivial, trivial, ?_⟩
        simp only [w1, w2, er, Int.toNat_natCast, g1, q1, q2, fin, if_true, and_self, argErr]
        simp
        intro hq
        apply s3
        rw [← s2]
        unfold okAt
        rw [q1, q2, hq]
      · rw [if_pos (by simpa using e)]
        exact ⟨trivial, rfl, trivial⟩
  · refine ⟨trivial, ?_⟩
    rw [if_pos rfl]
    exact ⟨rfl, trivial, rfl, trivial⟩
end Go.Tk
