/- The document's spans: all boxes that come to each line (layer 6). -/
import Derived.Test.YtblegpocdjoihaaC6e
set_option linter.unusedSimpArgs false
set_option linter.unusedVariables false
namespace Go.Tk
open Go Go.RowKit

def linesN (p : List Lin) (b : List Rng) (r : Bool) (n : Nat) : List Int := ((List.range n).filter fun i => ((spans p b).getD i dSpot).1.1 == r).map fun i : Nat => (i : Int)
def linesB (p : List Lin) (b : List Rng) (r : Bool) : List Int := linesN p b r p.length

theorem comeL_len (o : List Bxs) (j i : Nat) (b : List Rng) : ((comeL o j b).getD i []).length ≤ (o.getD i []).length + 1 := by
  unfold comeL
  rw [List.getD_eq_getElem?_getD, List.getElem?_set]
  by_cases e : j = i
  · subst e
    rw [if_pos rfl]
    by_cases h : j < o.length
    · rw [if_pos h]
      show (o.getD j [] ++ [b]).length ≤ _
      rw [List.length_append]; exact Nat.le_refl _
    · rw [if_neg h]; exact Nat.zero_le _
  · rw [if_neg e, ← List.getD_eq_getElem?_getD]; omega
theorem refStep_len (p : List Lin) (o : List Bxs) (k j : Nat) : ((refStep p o k).getD j []).length ≤ (o.getD j []).length + 2 := by
  unfold refStep
  dsimp only
  split
  · omega
  · split
    · have := comeL_len o (k + 1) j (afterBox (p.getD k dLin) (hullL (o.getD k [])))
      omega
    · have h1 : ∀ c : Prop, [Decidable c] → ((if c then comeL o (k + 1) (hullL (o.getD k [])) else o).getD j []).length ≤ (o.getD j []).length + 1 := by
        intro c _
        split
        · exact comeL_len ..
        · omega
      split
      · exact Nat.le_trans (comeL_len ..) (Nat.add_le_add_right (h1 _) 1)
      · exact Nat.le_trans (h1 _) (by omega)
theorem refTo_bd (p : List Lin) (b : List Rng) (j : Nat) : ∀ k, ((refTo p b k).getD j []).length ≤ 2 * k + 1
  | 0 => by
    have e : refTo p b 0 = comeL (List.replicate (p.length + 1) []) 0 b := rfl
    rw [e]
    refine Nat.le_trans (comeL_len ..) ?_
    have : (List.replicate (p.length + 1) ([] : Bxs)).getD j [] = [] := by simp [List.getD_eq_getElem?_getD, List.getElem?_replicate]; split <;> rfl
    rw [this]; exact Nat.le_refl _
  | k + 1 => by
    rw [refTo_succ]
    have := refStep_len p (refTo p b k) k j
    have := refTo_bd p b j k
    omega

theorem linesN_next (p : List Lin) (b : List Rng) (r : Bool) (n : Nat) : linesN p b r (n + 1) = if (((spans p b).getD n dSpot).1.1 == r) = true then linesN p b r n ++ [(n : Int)] else linesN p b r n := by
  unfold linesN
  rw [List.range_succ, List.filter_append, List.map_append, List.filter_cons, List.filter_nil]
  split
  · rfl
  · exact List.append_nil _
theorem linesN_both (p : List Lin) (b : List Rng) : ∀ n, (linesN p b true n).length + (linesN p b false n).length = n
  | 0 => rfl
  | n + 1 => by
    rw [linesN_next, linesN_next]
    have := linesN_both p b n
    cases ((spans p b).getD n dSpot).1.1 <;> simp <;> omega
theorem linesN_len (p : List Lin) (b : List Rng) (r : Bool) (n : Nat) : (linesN p b r n).length ≤ n := by
  have := linesN_both p b n
  cases r <;> omega
theorem sim_reach {l : Bxs} {s : Spot} (h : SimS l s) : (decide ((l.length : Int) > 0)) = s.1.1 := by
  rcases h with ⟨rfl, rfl⟩ | ⟨h, rfl⟩
  · rfl
  · cases l with
    | nil => exact absurd rfl h
    | cons a t => simp

abbrev cWritten : Con := { A := (.cons tL (.cons (.sl tR) .nil)), R := (.cons tR .nil), pre := fun x => validLine x.1 = true ∧ validB x.2.1 = true ∧ writes x.1 = true, F := fun x => (cutR (wrange x.1 x.2.1), ()) }
def cWritten_0  (l : Lin) (b : (List Rng)) (y0 : Rng) : Prop :=
  if (l.1 == (1 : Int)) = true then ((l.2.2.1, l.2.2.1, ()) = y0 ∧ True) else (idx l.2.2.1 (List.length b : Int) ∧ (idx l.2.2.2.1 (List.length b : Int) ∧ (if (l.1 == (3 : Int)) = true then (inI ((List.getD b (Int.toNat l.2.2.1) tR.dflt).1 + (List.getD b (Int.toNat l.2.2.2.1) tR.dflt).1) ∧ (inI ((List.getD b (Int.toNat l.2.2.1) tR.dflt).2.1 + (List.getD b (Int.toNat l.2.2.2.1) tR.dflt).2.1) ∧ (True ∧ (True ∧ (((cut ((List.getD b (Int.toNat l.2.2.1) tR.dflt).1 + (List.getD b (Int.toNat l.2.2.2.1) tR.dflt).1)), (cut ((List.getD b (Int.toNat l.2.2.1) tR.dflt).2.1 + (List.getD b (Int.toNat l.2.2.2.1) tR.dflt).2.1)), ()) = y0 ∧ True))))) else (if (l.1 == (4 : Int)) = true then (inI ((List.getD b (Int.toNat l.2.2.1) tR.dflt).1 - (List.getD b (Int.toNat l.2.2.2.1) tR.dflt).2.1) ∧ (inI ((List.getD b (Int.toNat l.2.2.1) tR.dflt).2.1 - (List.getD b (Int.toNat l.2.2.2.1) tR.dflt).1) ∧ (True ∧ (True ∧ (((cut ((List.getD b (Int.toNat l.2.2.1) tR.dflt).1 - (List.getD b (Int.toNat l.2.2.2.1) tR.dflt).2.1)), (cut ((List.getD b (Int.toNat l.2.2.1) tR.dflt).2.1 - (List.getD b (Int.toNat l.2.2.2.1) tR.dflt).1)), ()) = y0 ∧ True))))) else (if (l.1 == (5 : Int)) = true then (True ∧ (True ∧ (((cut (min ((List.getD b (Int.toNat l.2.2.1) tR.dflt).1) ((List.getD b (Int.toNat l.2.2.2.1) tR.dflt).1))), (cut (min ((List.getD b (Int.toNat l.2.2.1) tR.dflt).2.1) ((List.getD b (Int.toNat l.2.2.2.1) tR.dflt).2.1))), ()) = y0 ∧ True))) else (if (l.1 == (6 : Int)) = true then (True ∧ (True ∧ (((cut (max ((List.getD b (Int.toNat l.2.2.1) tR.dflt).1) ((List.getD b (Int.toNat l.2.2.2.1) tR.dflt).1))), (cut (max ((List.getD b (Int.toNat l.2.2.1) tR.dflt).2.1) ((List.getD b (Int.toNat l.2.2.2.1) tR.dflt).2.1))), ()) = y0 ∧ True))) else (True ∧ (True ∧ (((cut ((List.getD b (Int.toNat l.2.2.1) tR.dflt).1)), (cut ((List.getD b (Int.toNat l.2.2.1) tR.dflt).2.1)), ()) = y0 ∧ True)))))))))
theorem cWritten_law (h : ∀ (l : Lin) (b : (List Rng)), cWritten.A.wf (l, b, ()) → (validLine l = true ∧ validB b = true ∧ writes l = true) → cWritten_0  l b (cutR (wrange l b))) : ConOK Go.Proofs.Try.prog 113 cWritten := by
  refine lawL (Γ := [(137, cCutR)]) (Θ := Th) (n := 86) [] ⟨cCutR_ok, trivial⟩ (by kernel_rfl) th_ok mix_ok Go.Proofs.Try.func113 (by kernel_rfl) ?_
  intro x hw hp Λ hC
  have h0 := h x.1 x.2.1 hw hp  
  exact Eq.mpr (by kernel_rfl) h0
theorem cWritten_ok : ConOK Go.Proofs.Try.prog 113 cWritten := by
  refine cWritten_law ?_
  intro l b hw hp
  unfold cWritten_0
  obtain ⟨op, t, x, y, ⟨⟩⟩ := l
  obtain ⟨hp1, hp2, hp3⟩ := hp
  have hb : b.length = 4 := validB_len hp2
  obtain ⟨g1, g2, g3, g4, g5, g6, g7⟩ := validLine_regs hp1
  have ho : 1 ≤ op ∧ op ≤ 6 := by
    unfold writes at hp3; simp only [decide_eq_true_eq] at hp3; omega
  dsimp only
  have X : ∀ {i : Int}, 0 ≤ i → i ≤ 3 → idx i (b.length : Int) := fun h0 h1 => ⟨h0, by omega⟩
  have Y : ∀ {i : Int}, 0 ≤ i → i ≤ 3 → -999 ≤ (List.getD b i.toNat tR.dflt).1 ∧ (List.getD b i.toNat tR.dflt).1 ≤ (List.getD b i.toNat tR.dflt).2.1 ∧ (List.getD b i.toNat tR.dflt).2.1 ≤ 999 := fun h0 h1 => validB_get hp2 h0 h1
  have I : ∀ {i : Int}, -9999 ≤ i → i ≤ 9999 → inI i := fun h0 h1 => by unfold inI; omega
  by_cases e1 : op = 1
  · subst e1
    have := g5 rfl
    have hc : cut x = x := by unfold cut; omega
    refine ⟨?_, trivial⟩
    show (x, x, ()) = (cut x, cut x, ())
    rw [hc]
  rw [if_neg (by simpa using e1)]
  have x1 := g1 (by omega)
  have hy : idx y (b.length : Int) := by
    by_cases e2 : op = 2
    · subst e2
      unfold validLine at hp1
      simp at hp1
      exact ⟨by omega, by omega⟩
    · have y1 := g2 (by omega)
      exact X y1.1 y1.2
  have x2 := X x1.1 x1.2
  have x3 := Y x1.1 x1.2
  refine ⟨x2, hy, ?_⟩
  by_cases e2 : op = 2
  · subst e2
    exact ⟨trivial, trivial, rfl, trivial⟩
  have y1 := g2 (by omega)
  have y3 := Y y1.1 y1.2
  by_cases e3 : op = 3
  · subst e3
    exact ⟨I (by omega) (by omega), I (by omega) (by omega), trivial, trivial, rfl, trivial⟩
  rw [if_neg (by simpa using e3)]
  by_cases e4 : op = 4
  · subst e4
    exact ⟨I (by omega) (by omega), I (by omega) (by omega), trivial, trivial, rfl, trivial⟩
  rw [if_neg (by simpa using e4)]
  by_cases e5 : op = 5
  · subst e5
    exact ⟨trivial, trivial, rfl, trivial⟩
  rw [if_neg (by simpa using e5)]
  obtain rfl : op = 6 := by omega
  exact ⟨trivial, trivial, rfl, trivial⟩
abbrev cWritesR1 : Con := { A := (.cons tL .nil), R := (.cons .int (.cons .bool (.cons .int .nil))), pre := fun x => True, F := fun x => ((if validLine x.1 = true ∧ writes x.1 = true then x.1.2.1 else 0), (validLine x.1 && writes x.1), argErr (validLine x.1), ()) }
def cWritesR1_0  (l : Lin) (y0 : Int) (y1 : Bool) (y2 : Int) : Prop :=
  True ∧ (if (!(validLine l)) = true then ((0 : Int) = y0 ∧ false = y1 ∧ (1 : Int) = y2 ∧ True) else (True ∧ (if (!(!(l.1 == 0) && !(l.1 == 7))) = true then ((0 : Int) = y0 ∧ false = y1 ∧ (0 : Int) = y2 ∧ True) else (l.2.1 = y0 ∧ true = y1 ∧ (0 : Int) = y2 ∧ True))))
theorem cWritesR1_law (h : ∀ (l : Lin), cWritesR1.A.wf (l, ()) → cWritesR1_0  l (if validLine l = true ∧ writes l = true then l.2.1 else 0) (validLine l && writes l) (argErr (validLine l))) : ConOK Go.Proofs.Try.prog 112 cWritesR1 := by
  refine lawL (Γ := [(134, cIsLineR), (136, cWritesR)]) (Θ := Th) (n := 13) [] ⟨cIsLineR_ok, cWritesR_ok, trivial⟩ (by kernel_rfl) th_ok mix_ok Go.Proofs.Try.func112 (by kernel_rfl) ?_
  intro x hw hp Λ hC
  have h0 := h x.1 hw  
  exact Eq.mpr (by kernel_rfl) h0
theorem cWritesR1_ok : ConOK Go.Proofs.Try.prog 112 cWritesR1 := by
  refine cWritesR1_law ?_
  intro l hw
  unfold cWritesR1_0
  refine ⟨trivial, ?_⟩
  cases h : validLine l
  · rw [if_pos (by rfl)]
    simp [argErr]
  · rw [if_neg (by simp)]
    refine ⟨trivial, ?_⟩
    have e : (!(l.1 == 0) && !(l.1 == 7)) = writes l := by
      have rg := (line_regs h).2.2.2.2.2
      unfold writes
      rw [Bool.eq_iff_iff]
      simp
      omega
    rw [e]
    cases hw' : writes l
    · rw [if_pos (by rfl)]; simp [argErr]
    · rw [if_neg (by simp)]; simp [argErr]
abbrev cSpansR : Con := { A := (.cons (.sl tL) (.cons (.sl tR) .nil)), R := (.cons (.sl (.sl (.sl tR))) .nil), pre := fun x => validP x.1 = 0 ∧ validB x.2.1 = true, F := fun x => (refSpans x.1 x.2.1, ()), al := true }
def cSpansR_0 (Λ1 : Int → (List (List (List Rng))) → Prop) (p : (List Lin)) (b : (List Rng)) (y0 : (List (List (List Rng)))) : Prop :=
  inI ((List.length p : Int) + (1 : Int)) ∧ (mkLen ((List.length p : Int) + (1 : Int)) ((List.length p : Int) + (1 : Int)) ∧ (idx (0 : Int) (List.length (List.replicate (Int.toNat ((List.length p : Int) + (1 : Int))) ([] : List (List Rng))) : Int) ∧ (True ∧ Λ1 (0 : Int) (List.set (List.replicate (Int.toNat ((List.length p : Int) + (1 : Int))) ([] : List (List Rng))) (Int.toNat (0 : Int)) [b]))))
def cSpansR_1 (Λ1 : Int → (List (List (List Rng))) → Prop) (p : (List Lin)) (b : (List Rng)) (y0 : (List (List (List Rng))))  (i_1 : Int) (out_1 : (List (List (List Rng)))) : Prop :=
  if (decide (i_1 < (List.length p : Int))) = true then (idx i_1 (List.length out_1 : Int) ∧ (if ((List.length (List.getD out_1 (Int.toNat i_1) ([] : List (List Rng))) : Int) == (0 : Int)) = true then (inI (i_1 + (1 : Int)) ∧ Λ1 (i_1 + (1 : Int)) out_1) else (idx i_1 (List.length out_1 : Int) ∧ (((List.getD out_1 (Int.toNat i_1) ([] : List (List Rng))) ≠ [] ∧ (List.getD out_1 (Int.toNat i_1) ([] : List (List Rng))).length ≤ 1000 ∧ ∀ q' ∈ (List.getD out_1 (Int.toNat i_1) ([] : List (List Rng))), validB q' = true) ∧ (idx i_1 (List.length p : Int) ∧ (if ((List.getD p (Int.toNat i_1) tL.dflt).1 == (7 : Int)) = true then (if ((List.getD p (Int.toNat i_1) tL.dflt).2.2.1 == (List.getD p (Int.toNat i_1) tL.dflt).2.2.2.1) = true then (true = true ∧ (inI (i_1 + (1 : Int)) ∧ (inI (i_1 + (1 : Int)) ∧ (idx (i_1 + (1 : Int)) (List.length out_1 : Int) ∧ (List.length (List.getD out_1 (Int.toNat (i_1 + (1 : Int))) ([] : List (List Rng))) + List.length ([(hullL (List.getD out_1 (Int.toNat i_1) ([] : List (List Rng))))]) ≤ 4294967296 ∧ (idx (i_1 + (1 : Int)) (List.length out_1 : Int) ∧ ((Int.toNat (i_1 + (1 : Int))) = (Int.toNat (i_1 + (1 : Int))) ∧ (if ((List.getD p (Int.toNat i_1) tL.dflt).2.2.1 != (List.getD p (Int.toNat i_1) tL.dflt).2.2.2.1) = true then (idx ((List.getD p (Int.toNat i_1) tL.dflt).2.2.1) (List.length (hullL (List.getD out_1 (Int.toNat i_1) ([] : List (List Rng)))) : Int) ∧ (idx ((List.getD p (Int.toNat i_1) tL.dflt).2.2.2.1) (List.length (hullL (List.getD out_1 (Int.toNat i_1) ([] : List (List Rng)))) : Int) ∧ (True ∧ (if (bif true then (decide ((List.getD (hullL (List.getD out_1 (Int.toNat i_1) ([] : List (List Rng)))) (Int.toNat ((List.getD p (Int.toNat i_1) tL.dflt).2.2.1)) tR.dflt).1 < (List.getD (hullL (List.getD out_1 (Int.toNat i_1) ([] : List (List Rng)))) (Int.toNat ((List.getD p (Int.toNat i_1) tL.dflt).2.2.2.1)) tR.dflt).2.1)) else false) = true then (inI (i_1 + (1 : Int)) ∧ (inI ((i_1 + (1 : Int)) + (List.getD p (Int.toNat i_1) tL.dflt).2.1) ∧ (idx (min ((i_1 + (1 : Int)) + (List.getD p (Int.toNat i_1) tL.dflt).2.1) (List.length p : Int)) (List.length (List.set out_1 (Int.toNat (i_1 + (1 : Int))) ((List.getD out_1 (Int.toNat (i_1 + (1 : Int))) ([] : List (List Rng))) ++ [(hullL (List.getD out_1 (Int.toNat i_1) ([] : List (List Rng))))])) : Int) ∧ (List.length (List.getD (List.set out_1 (Int.toNat (i_1 + (1 : Int))) ((List.getD out_1 (Int.toNat (i_1 + (1 : Int))) ([] : List (List Rng))) ++ [(hullL (List.getD out_1 (Int.toNat i_1) ([] : List (List Rng))))])) (Int.toNat (min ((i_1 + (1 : Int)) + (List.getD p (Int.toNat i_1) tL.dflt).2.1) (List.length p : Int))) ([] : List (List Rng))) + List.length ([(hullL (List.getD out_1 (Int.toNat i_1) ([] : List (List Rng))))]) ≤ 4294967296 ∧ (idx (min ((i_1 + (1 : Int)) + (List.getD p (Int.toNat i_1) tL.dflt).2.1) (List.length p : Int)) (List.length (List.set out_1 (Int.toNat (i_1 + (1 : Int))) ((List.getD out_1 (Int.toNat (i_1 + (1 : Int))) ([] : List (List Rng))) ++ [(hullL (List.getD out_1 (Int.toNat i_1) ([] : List (List Rng))))])) : Int) ∧ ((Int.toNat (min ((i_1 + (1 : Int)) + (List.getD p (Int.toNat i_1) tL.dflt).2.1) (List.length p : Int))) = (Int.toNat (min ((i_1 + (1 : Int)) + (List.getD p (Int.toNat i_1) tL.dflt).2.1) (List.length p : Int))) ∧ (inI (i_1 + (1 : Int)) ∧ Λ1 (i_1 + (1 : Int)) (List.set (List.set out_1 (Int.toNat (i_1 + (1 : Int))) ((List.getD out_1 (Int.toNat (i_1 + (1 : Int))) ([] : List (List Rng))) ++ [(hullL (List.getD out_1 (Int.toNat i_1) ([] : List (List Rng))))])) (Int.toNat (min ((i_1 + (1 : Int)) + (List.getD p (Int.toNat i_1) tL.dflt).2.1) (List.length p : Int))) ((List.getD (List.set out_1 (Int.toNat (i_1 + (1 : Int))) ((List.getD out_1 (Int.toNat (i_1 + (1 : Int))) ([] : List (List Rng))) ++ [(hullL (List.getD out_1 (Int.toNat i_1) ([] : List (List Rng))))])) (Int.toNat (min ((i_1 + (1 : Int)) + (List.getD p (Int.toNat i_1) tL.dflt).2.1) (List.length p : Int))) ([] : List (List Rng))) ++ [(hullL (List.getD out_1 (Int.toNat i_1) ([] : List (List Rng))))]))))))))) else (inI (i_1 + (1 : Int)) ∧ Λ1 (i_1 + (1 : Int)) (List.set out_1 (Int.toNat (i_1 + (1 : Int))) ((List.getD out_1 (Int.toNat (i_1 + (1 : Int))) ([] : List (List Rng))) ++ [(hullL (List.getD out_1 (Int.toNat i_1) ([] : List (List Rng))))]))))))) else (false = false ∧ (inI (i_1 + (1 : Int)) ∧ Λ1 (i_1 + (1 : Int)) (List.set out_1 (Int.toNat (i_1 + (1 : Int))) ((List.getD out_1 (Int.toNat (i_1 + (1 : Int))) ([] : List (List Rng))) ++ [(hullL (List.getD out_1 (Int.toNat i_1) ([] : List (List Rng))))])))))))))))) else (idx ((List.getD p (Int.toNat i_1) tL.dflt).2.2.1) (List.length (hullL (List.getD out_1 (Int.toNat i_1) ([] : List (List Rng)))) : Int) ∧ (idx ((List.getD p (Int.toNat i_1) tL.dflt).2.2.2.1) (List.length (hullL (List.getD out_1 (Int.toNat i_1) ([] : List (List Rng)))) : Int) ∧ (True ∧ (if (bif false then true else (decide ((List.getD (hullL (List.getD out_1 (Int.toNat i_1) ([] : List (List Rng)))) (Int.toNat ((List.getD p (Int.toNat i_1) tL.dflt).2.2.1)) tR.dflt).2.1 ≥ (List.getD (hullL (List.getD out_1 (Int.toNat i_1) ([] : List (List Rng)))) (Int.toNat ((List.getD p (Int.toNat i_1) tL.dflt).2.2.2.1)) tR.dflt).1))) = true then (inI (i_1 + (1 : Int)) ∧ (inI (i_1 + (1 : Int)) ∧ (idx (i_1 + (1 : Int)) (List.length out_1 : Int) ∧ (List.length (List.getD out_1 (Int.toNat (i_1 + (1 : Int))) ([] : List (List Rng))) + List.length ([(hullL (List.getD out_1 (Int.toNat i_1) ([] : List (List Rng))))]) ≤ 4294967296 ∧ (idx (i_1 + (1 : Int)) (List.length out_1 : Int) ∧ ((Int.toNat (i_1 + (1 : Int))) = (Int.toNat (i_1 + (1 : Int))) ∧ (if ((List.getD p (Int.toNat i_1) tL.dflt).2.2.1 != (List.getD p (Int.toNat i_1) tL.dflt).2.2.2.1) = true then (idx ((List.getD p (Int.toNat i_1) tL.dflt).2.2.1) (List.length (hullL (List.getD out_1 (Int.toNat i_1) ([] : List (List Rng)))) : Int) ∧ (idx ((List.getD p (Int.toNat i_1) tL.dflt).2.2.2.1) (List.length (hullL (List.getD out_1 (Int.toNat i_1) ([] : List (List Rng)))) : Int) ∧ (True ∧ (if (bif true then (decide ((List.getD (hullL (List.getD out_1 (Int.toNat i_1) ([] : List (List Rng)))) (Int.toNat ((List.getD p (Int.toNat i_1) tL.dflt).2.2.1)) tR.dflt).1 < (List.getD (hullL (List.getD out_1 (Int.toNat i_1) ([] : List (List Rng)))) (Int.toNat ((List.getD p (Int.toNat i_1) tL.dflt).2.2.2.1)) tR.dflt).2.1)) else false) = true then (inI (i_1 + (1 : Int)) ∧ (inI ((i_1 + (1 : Int)) + (List.getD p (Int.toNat i_1) tL.dflt).2.1) ∧ (idx (min ((i_1 + (1 : Int)) + (List.getD p (Int.toNat i_1) tL.dflt).2.1) (List.length p : Int)) (List.length (List.set out_1 (Int.toNat (i_1 + (1 : Int))) ((List.getD out_1 (Int.toNat (i_1 + (1 : Int))) ([] : List (List Rng))) ++ [(hullL (List.getD out_1 (Int.toNat i_1) ([] : List (List Rng))))])) : Int) ∧ (List.length (List.getD (List.set out_1 (Int.toNat (i_1 + (1 : Int))) ((List.getD out_1 (Int.toNat (i_1 + (1 : Int))) ([] : List (List Rng))) ++ [(hullL (List.getD out_1 (Int.toNat i_1) ([] : List (List Rng))))])) (Int.toNat (min ((i_1 + (1 : Int)) + (List.getD p (Int.toNat i_1) tL.dflt).2.1) (List.length p : Int))) ([] : List (List Rng))) + List.length ([(hullL (List.getD out_1 (Int.toNat i_1) ([] : List (List Rng))))]) ≤ 4294967296 ∧ (idx (min ((i_1 + (1 : Int)) + (List.getD p (Int.toNat i_1) tL.dflt).2.1) (List.length p : Int)) (List.length (List.set out_1 (Int.toNat (i_1 + (1 : Int))) ((List.getD out_1 (Int.toNat (i_1 + (1 : Int))) ([] : List (List Rng))) ++ [(hullL (List.getD out_1 (Int.toNat i_1) ([] : List (List Rng))))])) : Int) ∧ ((Int.toNat (min ((i_1 + (1 : Int)) + (List.getD p (Int.toNat i_1) tL.dflt).2.1) (List.length p : Int))) = (Int.toNat (min ((i_1 + (1 : Int)) + (List.getD p (Int.toNat i_1) tL.dflt).2.1) (List.length p : Int))) ∧ (inI (i_1 + (1 : Int)) ∧ Λ1 (i_1 + (1 : Int)) (List.set (List.set out_1 (Int.toNat (i_1 + (1 : Int))) ((List.getD out_1 (Int.toNat (i_1 + (1 : Int))) ([] : List (List Rng))) ++ [(hullL (List.getD out_1 (Int.toNat i_1) ([] : List (List Rng))))])) (Int.toNat (min ((i_1 + (1 : Int)) + (List.getD p (Int.toNat i_1) tL.dflt).2.1) (List.length p : Int))) ((List.getD (List.set out_1 (Int.toNat (i_1 + (1 : Int))) ((List.getD out_1 (Int.toNat (i_1 + (1 : Int))) ([] : List (List Rng))) ++ [(hullL (List.getD out_1 (Int.toNat i_1) ([] : List (List Rng))))])) (Int.toNat (min ((i_1 + (1 : Int)) + (List.getD p (Int.toNat i_1) tL.dflt).2.1) (List.length p : Int))) ([] : List (List Rng))) ++ [(hullL (List.getD out_1 (Int.toNat i_1) ([] : List (List Rng))))]))))))))) else (inI (i_1 + (1 : Int)) ∧ Λ1 (i_1 + (1 : Int)) (List.set out_1 (Int.toNat (i_1 + (1 : Int))) ((List.getD out_1 (Int.toNat (i_1 + (1 : Int))) ([] : List (List Rng))) ++ [(hullL (List.getD out_1 (Int.toNat i_1) ([] : List (List Rng))))]))))))) else (false = false ∧ (inI (i_1 + (1 : Int)) ∧ Λ1 (i_1 + (1 : Int)) (List.set out_1 (Int.toNat (i_1 + (1 : Int))) ((List.getD out_1 (Int.toNat (i_1 + (1 : Int))) ([] : List (List Rng))) ++ [(hullL (List.getD out_1 (Int.toNat i_1) ([] : List (List Rng))))]))))))))))) else (if ((List.getD p (Int.toNat i_1) tL.dflt).2.2.1 != (List.getD p (Int.toNat i_1) tL.dflt).2.2.2.1) = true then (idx ((List.getD p (Int.toNat i_1) tL.dflt).2.2.1) (List.length (hullL (List.getD out_1 (Int.toNat i_1) ([] : List (List Rng)))) : Int) ∧ (idx ((List.getD p (Int.toNat i_1) tL.dflt).2.2.2.1) (List.length (hullL (List.getD out_1 (Int.toNat i_1) ([] : List (List Rng)))) : Int) ∧ (True ∧ (if (bif true then (decide ((List.getD (hullL (List.getD out_1 (Int.toNat i_1) ([] : List (List Rng)))) (Int.toNat ((List.getD p (Int.toNat i_1) tL.dflt).2.2.1)) tR.dflt).1 < (List.getD (hullL (List.getD out_1 (Int.toNat i_1) ([] : List (List Rng)))) (Int.toNat ((List.getD p (Int.toNat i_1) tL.dflt).2.2.2.1)) tR.dflt).2.1)) else false) = true then (inI (i_1 + (1 : Int)) ∧ (inI ((i_1 + (1 : Int)) + (List.getD p (Int.toNat i_1) tL.dflt).2.1) ∧ (idx (min ((i_1 + (1 : Int)) + (List.getD p (Int.toNat i_1) tL.dflt).2.1) (List.length p : Int)) (List.length out_1 : Int) ∧ (List.length (List.getD out_1 (Int.toNat (min ((i_1 + (1 : Int)) + (List.getD p (Int.toNat i_1) tL.dflt).2.1) (List.length p : Int))) ([] : List (List Rng))) + List.length ([(hullL (List.getD out_1 (Int.toNat i_1) ([] : List (List Rng))))]) ≤ 4294967296 ∧ (idx (min ((i_1 + (1 : Int)) + (List.getD p (Int.toNat i_1) tL.dflt).2.1) (List.length p : Int)) (List.length out_1 : Int) ∧ ((Int.toNat (min ((i_1 + (1 : Int)) + (List.getD p (Int.toNat i_1) tL.dflt).2.1) (List.length p : Int))) = (Int.toNat (min ((i_1 + (1 : Int)) + (List.getD p (Int.toNat i_1) tL.dflt).2.1) (List.length p : Int))) ∧ (inI (i_1 + (1 : Int)) ∧ Λ1 (i_1 + (1 : Int)) (List.set out_1 (Int.toNat (min ((i_1 + (1 : Int)) + (List.getD p (Int.toNat i_1) tL.dflt).2.1) (List.length p : Int))) ((List.getD out_1 (Int.toNat (min ((i_1 + (1 : Int)) + (List.getD p (Int.toNat i_1) tL.dflt).2.1) (List.length p : Int))) ([] : List (List Rng))) ++ [(hullL (List.getD out_1 (Int.toNat i_1) ([] : List (List Rng))))]))))))))) else (inI (i_1 + (1 : Int)) ∧ Λ1 (i_1 + (1 : Int)) out_1))))) else (false = false ∧ (inI (i_1 + (1 : Int)) ∧ Λ1 (i_1 + (1 : Int)) out_1)))))))) else (List.length ([] : List Rng) + List.length (hullL (List.getD out_1 (Int.toNat i_1) ([] : List (List Rng)))) ≤ 4294967296 ∧ (True ∧ (if ((validLine (List.getD p (Int.toNat i_1) tL.dflt) && writes (List.getD p (Int.toNat i_1) tL.dflt))) = true then ((validLine (List.getD p (Int.toNat i_1) tL.dflt) = true ∧ validB (hullL (List.getD out_1 (Int.toNat i_1) ([] : List (List Rng)))) = true ∧ writes (List.getD p (Int.toNat i_1) tL.dflt) = true) ∧ (idx ((List.getD p (Int.toNat i_1) tL.dflt).2.1) (List.length (([] : List Rng) ++ (hullL (List.getD out_1 (Int.toNat i_1) ([] : List (List Rng))))) : Int) ∧ (inI (i_1 + (1 : Int)) ∧ (inI (i_1 + (1 : Int)) ∧ (idx (i_1 + (1 : Int)) (List.length out_1 : Int) ∧ (List.length (List.getD out_1 (Int.toNat (i_1 + (1 : Int))) ([] : List (List Rng))) + List.length ([(List.set (([] : List Rng) ++ (hullL (List.getD out_1 (Int.toNat i_1) ([] : List (List Rng))))) (Int.toNat ((List.getD p (Int.toNat i_1) tL.dflt).2.1)) (cutR (wrange (List.getD p (Int.toNat i_1) tL.dflt) (hullL (List.getD out_1 (Int.toNat i_1) ([] : List (List Rng)))))))]) ≤ 4294967296 ∧ (idx (i_1 + (1 : Int)) (List.length out_1 : Int) ∧ ((Int.toNat (i_1 + (1 : Int))) = (Int.toNat (i_1 + (1 : Int))) ∧ (inI (i_1 + (1 : Int)) ∧ Λ1 (i_1 + (1 : Int)) (List.set out_1 (Int.toNat (i_1 + (1 : Int))) ((List.getD out_1 (Int.toNat (i_1 + (1 : Int))) ([] : List (List Rng))) ++ [(List.set (([] : List Rng) ++ (hullL (List.getD out_1 (Int.toNat i_1) ([] : List (List Rng))))) (Int.toNat ((List.getD p (Int.toNat i_1) tL.dflt).2.1)) (cutR (wrange (List.getD p (Int.toNat i_1) tL.dflt) (hullL (List.getD out_1 (Int.toNat i_1) ([] : List (List Rng)))))))]))))))))))) else (inI (i_1 + (1 : Int)) ∧ (inI (i_1 + (1 : Int)) ∧ (idx (i_1 + (1 : Int)) (List.length out_1 : Int) ∧ (List.length (List.getD out_1 (Int.toNat (i_1 + (1 : Int))) ([] : List (List Rng))) + List.length ([(([] : List Rng) ++ (hullL (List.getD out_1 (Int.toNat i_1) ([] : List (List Rng)))))]) ≤ 4294967296 ∧ (idx (i_1 + (1 : Int)) (List.length out_1 : Int) ∧ ((Int.toNat (i_1 + (1 : Int))) = (Int.toNat (i_1 + (1 : Int))) ∧ (inI (i_1 + (1 : Int)) ∧ Λ1 (i_1 + (1 : Int)) (List.set out_1 (Int.toNat (i_1 + (1 : Int))) ((List.getD out_1 (Int.toNat (i_1 + (1 : Int))) ([] : List (List Rng))) ++ [(([] : List Rng) ++ (hullL (List.getD out_1 (Int.toNat i_1) ([] : List (List Rng)))))])))))))))))))))))) else (out_1 = y0 ∧ True)
theorem cSpansR_law (h : ∀ (p : (List Lin)) (b : (List Rng)), cSpansR.A.wf (p, b, ()) → (validP p = 0 ∧ validB b = true) → ∀ (Λ1 : Int → (List (List (List Rng))) → Prop), (∀ (i_1 : Int) (out_1 : (List (List (List Rng)))), cSpansR_1 Λ1 p b (refSpans p b) i_1 out_1 → Λ1 i_1 out_1) → cSpansR_0 Λ1 p b (refSpans p b)) : ConOK Go.Proofs.Try.prog 69 cSpansR := by
  refine lawX (X := { subs := [], frz := [], U := [], mul := [], nst := [17], nls := [], itf := none }) (hX := xok0 _) (Γ := [(70, cHullR), (112, cWritesR1), (113, cWritten)]) (Θ := Th) (n := 146) [([1, 1, 1, 0, 1, 0], ⟨[(0, false), (5, true), (6, true)], [(17, false)]⟩)] ⟨cHullR_ok, cWritesR1_ok, cWritten_ok, trivial⟩ (by kernel_rfl) th_ok mix_ok Go.Proofs.Try.func69 (by kernel_rfl) ?_
  intro x hw hp Λ hC
  have h0 := h x.1 x.2.1 hw hp (fun i_1 out_1 => Λ [1, 1, 1, 0, 1, 0] ([(0, .d false (.sl tL) x.1), (5, .own 17 0), (6, .d true .int i_1)], [(17, .nl false (.sl tR) out_1 0 none)])) (fun i_1 out_1 hb => hC [1, 1, 1, 0, 1, 0] ([(0, .d false (.sl tL) x.1), (5, .own 17 0), (6, .d true .int i_1)], [(17, .nl false (.sl tR) out_1 0 none)]) (Eq.mpr (by kernel_rfl) hb))
  exact Eq.mpr (by kernel_rfl) h0
theorem cSpansR_ok : ConOK Go.Proofs.Try.prog 69 cSpansR := by
  refine cSpansR_law ?_
  intro p b hw hp Λ1 h1
  unfold cSpansR_0
  obtain ⟨g1, g2⟩ := hp
  obtain ⟨h8, hall⟩ := validP_ok g1
  have tn : Int.toNat ((p.length : Int) + 1) = p.length + 1 := by omega
  rw [tn]
  refine ⟨by unfold inI; omega, by unfold mkLen; omega, ⟨by omega, by simp⟩, trivial, ?_⟩
  have key := upto (n := p.length) (Q := fun k => Λ1 (k : Int) (refTo p b k)) ?_ ?_ 0 (Nat.zero_le _)
  · exact key
  · apply h1; unfold cSpansR_1
    rw [if_neg (by simp)]
    exact ⟨rfl, trivial⟩
  · intro i hi ih
    obtain ⟨o1, _, o3⟩ := sim_to hall g2 i (by omega)
    have hbd := fun j => refTo_bd p b j i
    rw [refTo_succ, show ((i + 1 : Nat) : Int) = (i : Int) + 1 by omega] at ih
    have hl := validLine_getD hall hi
    apply h1; unfold cSpansR_1
    generalize refTo p b i = O at o1 o3 hbd ih ⊢
    have et : ((i : Int) + 1).toNat = i + 1 := by omega
    have sv := (o3 i (by omega)).2
    have I1 : inI ((i : Int) + 1) := by unfold inI; omega
    have X1 : idx ((i : Int) + 1) (O.length : Int) := ⟨by omega, by omega⟩
    rw [if_pos (by simpa using hi)]
    simp only [Int.toNat_natCast, et]
    refine ⟨idx_nat (by omega), ?_⟩
    unfold refStep at ih
    dsimp only at ih
    by_cases e : O.getD i [] = []
    · rw [if_pos e] at ih
      rw [if_pos (by rw [e]; rfl)]
      exact ⟨I1, ih⟩
    rw [if_neg e] at ih
    rw [if_neg (by simpa using e)]
    have nv := hullL_ok e sv
    have n4 := validB_len nv
    refine ⟨idx_nat (by omega), ⟨e, by have := hbd i; omega, sv⟩, idx_nat hi, ?_⟩
    unfold dLin at ih
    unfold dLin at hl
    have rg := line_regs hl
    unfold comeL at ih
    have len1 : ∀ (j : Nat) (q : List Rng), (O.getD j []).length + [q].length ≤ 4294967296 := by
      intro j q
      have := hbd j
      simp only [List.length_cons, List.length_nil]; omega
    by_cases c7 : (List.getD p i tL.dflt).1 = 7
    · rw [if_neg (by simpa using c7)] at ih
      rw [if_pos (by simpa using c7)]
      have ix := rg.1 (by omega)
      have iy := rg.2.1 (by omega)
      have it := rg.2.2.2.1 c7
      have ia : idx (List.getD p i tL.dflt).2.2.1 ((hullL (O.getD i [])).length : Int) := ⟨ix.1, by omega⟩
      have ib : idx (List.getD p i tL.dflt).2.2.2.1 ((hullL (O.getD i [])).length : Int) := ⟨iy.1, by omega⟩
      have hM : idx (min ((i : Int) + 1 + (List.getD p i tL.dflt).2.1) (p.length : Int)) (O.length : Int) := ⟨by omega, by omega⟩
      have I2 : inI ((i : Int) + 1 + (List.getD p i tL.dflt).2.1) := by unfold inI; omega
      unfold Rd at ih
      have len2 : ∀ (j : Nat) (q : List Rng), ((O.set (i + 1) (O.getD (i + 1) [] ++ [(hullL (O.getD i []))])).getD j []).length + [q].length ≤ 4294967296 := by
        intro j q
        have := comeL_len O (i + 1) j (hullL (O.getD i []))
        unfold comeL at this
        have := hbd j
        simp only [List.length_cons, List.length_nil]; omega
      have hM2 : idx (min ((i : Int) + 1 + (List.getD p i tL.dflt).2.1) (p.length : Int)) ((O.set (i + 1) (O.getD (i + 1) [] ++ [(hullL (O.getD i []))])).length : Int) := by rw [List.length_set]; exact hM
      by_cases ab : (List.getD p i tL.dflt).2.2.1 = (List.getD p i tL.dflt).2.2.2.1
      · rw [if_pos (show ((List.getD p i tL.dflt).2.2.1 = (List.getD p i tL.dflt).2.2.2.1 ∨ (List.getD (hullL (O.getD i [])) (List.getD p i tL.dflt).2.2.2.1.toNat tR.dflt).1 ≤ (List.getD (hullL (O.getD i [])) (List.getD p i tL.dflt).2.2.1.toNat tR.dflt).2.1) from .inl ab), if_neg (show ¬ ((List.getD p i tL.dflt).2.2.1 ≠ (List.getD p i tL.dflt).2.2.2.1 ∧ (List.getD (hullL (O.getD i [])) (List.getD p i tL.dflt).2.2.1.toNat tR.dflt).1 < (List.getD (hullL (O.getD i [])) (List.getD p i tL.dflt).2.2.2.1.toNat tR.dflt).2.1) from fun h => h.1 ab)] at ih
        rw [if_pos (by simpa using ab)]
        refine ⟨by trivial, I1, I1, X1, len1 _ _, X1, by trivial, ?_⟩
        rw [if_neg (by simpa using ab)]
        exact ⟨by trivial, I1, ih⟩
      · rw [if_neg (by simpa using ab)]
        refine ⟨ia, ib, trivial, ?_⟩
        by_cases g : (List.getD (hullL (O.getD i [])) (List.getD p i tL.dflt).2.2.2.1.toNat tR.dflt).1 ≤ (List.getD (hullL (O.getD i [])) (List.getD p i tL.dflt).2.2.1.toNat tR.dflt).2.1
        · rw [if_pos (show ((List.getD p i tL.dflt).2.2.1 = (List.getD p i tL.dflt).2.2.2.1 ∨ (List.getD (hullL (O.getD i [])) (List.getD p i tL.dflt).2.2.2.1.toNat tR.dflt).1 ≤ (List.getD (hullL (O.getD i [])) (List.getD p i tL.dflt).2.2.1.toNat tR.dflt).2.1) from .inr g)] at ih
          rw [if_pos (by simpa using g)]
          refine ⟨I1, I1, X1, len1 _ _, X1, by trivial, ?_⟩
          rw [if_pos (by simpa using ab)]
          refine ⟨ia, ib, trivial, ?_⟩
          by_cases g' : (List.getD (hullL (O.getD i [])) (List.getD p i tL.dflt).2.2.1.toNat tR.dflt).1 < (List.getD (hullL (O.getD i [])) (List.getD p i tL.dflt).2.2.2.1.toNat tR.dflt).2.1
          · rw [if_pos (show ((List.getD p i tL.dflt).2.2.1 ≠ (List.getD p i tL.dflt).2.2.2.1 ∧ (List.getD (hullL (O.getD i [])) (List.getD p i tL.dflt).2.2.1.toNat tR.dflt).1 < (List.getD (hullL (O.getD i [])) (List.getD p i tL.dflt).2.2.2.1.toNat tR.dflt).2.1) from ⟨ab, g'⟩)] at ih
            rw [if_pos (by simpa using g')]
            exact ⟨I1, I2, hM2, len2 _ _, hM2, by trivial, I1, ih⟩
          · rw [if_neg (show ¬ ((List.getD p i tL.dflt).2.2.1 ≠ (List.getD p i tL.dflt).2.2.2.1 ∧ (List.getD (hullL (O.getD i [])) (List.getD p i tL.dflt).2.2.1.toNat tR.dflt).1 < (List.getD (hullL (O.getD i [])) (List.getD p i tL.dflt).2.2.2.1.toNat tR.dflt).2.1) from fun h => g' h.2)] at ih
            rw [if_neg (by simpa using g')]
            exact ⟨I1, ih⟩
        · rw [if_neg (show ¬ ((List.getD p i tL.dflt).2.2.1 = (List.getD p i tL.dflt).2.2.2.1 ∨ (List.getD (hullL (O.getD i [])) (List.getD p i tL.dflt).2.2.2.1.toNat tR.dflt).1 ≤ (List.getD (hullL (O.getD i [])) (List.getD p i tL.dflt).2.2.1.toNat tR.dflt).2.1) from fun h => h.elim ab g)] at ih
          rw [if_neg (by simpa using g)]
          rw [if_pos (by simpa using ab)]
          refine ⟨ia, ib, trivial, ?_⟩
          by_cases g' : (List.getD (hullL (O.getD i [])) (List.getD p i tL.dflt).2.2.1.toNat tR.dflt).1 < (List.getD (hullL (O.getD i [])) (List.getD p i tL.dflt).2.2.2.1.toNat tR.dflt).2.1
          · rw [if_pos (show ((List.getD p i tL.dflt).2.2.1 ≠ (List.getD p i tL.dflt).2.2.2.1 ∧ (List.getD (hullL (O.getD i [])) (List.getD p i tL.dflt).2.2.1.toNat tR.dflt).1 < (List.getD (hullL (O.getD i [])) (List.getD p i tL.dflt).2.2.2.1.toNat tR.dflt).2.1) from ⟨ab, g'⟩)] at ih
            rw [if_pos (by simpa using g')]
            exact ⟨I1, I2, hM, len1 _ _, hM, by trivial, I1, ih⟩
          · rw [if_neg (show ¬ ((List.getD p i tL.dflt).2.2.1 ≠ (List.getD p i tL.dflt).2.2.2.1 ∧ (List.getD (hullL (O.getD i [])) (List.getD p i tL.dflt).2.2.1.toNat tR.dflt).1 < (List.getD (hullL (O.getD i [])) (List.getD p i tL.dflt).2.2.2.1.toNat tR.dflt).2.1) from fun h => g' h.2)] at ih
            rw [if_neg (by simpa using g')]
            exact ⟨I1, ih⟩
    · rw [if_pos c7] at ih
      rw [if_neg (by simpa using c7)]
      simp only [List.nil_append]
      refine ⟨by simp only [List.length_nil]; omega, trivial, ?_⟩
      unfold afterBox at ih
      cases w : writes (List.getD p i tL.dflt)
      · rw [w, if_neg (by simp)] at ih
        rw [if_neg (by simp)]
        exact ⟨I1, I1, X1, len1 _ _, X1, by trivial, I1, ih⟩
      · rw [w, if_pos rfl] at ih
        rw [if_pos (by rw [hl]; rfl)]
        have wt : 1 ≤ (List.getD p i tL.dflt).1 ∧ (List.getD p i tL.dflt).1 ≤ 6 := by
          unfold writes at w; simpa using w
        have it := rg.2.2.1 wt
        exact ⟨⟨hl, nv, rfl⟩, ⟨it.1, by omega⟩, I1, I1, X1, len1 _ _, X1, by trivial, I1, ih⟩
abbrev cBoxed : Con := { A := (.cons (.sl tL) (.cons (.sl tR) .nil)), R := (.cons .int .nil), pre := fun x => True, F := fun x => (err6 x.1 x.2.1, ()) }
def cBoxed_0  (p : (List Lin)) (b : (List Rng)) (y0 : Int) : Prop :=
  True ∧ (if ((validP p) != (0 : Int)) = true then ((validP p) = y0 ∧ True) else (True ∧ ((argErr (validB b)) = y0 ∧ True)))
theorem cBoxed_law (h : ∀ (p : (List Lin)) (b : (List Rng)), cBoxed.A.wf (p, b, ()) → cBoxed_0  p b (err6 p b)) : ConOK Go.Proofs.Try.prog 64 cBoxed := by
  refine lawL (Γ := [(41, cValBR), (109, cValPR)]) (Θ := Th) (n := 13) [] ⟨cValBR_ok, cValPR_ok, trivial⟩ (by kernel_rfl) th_ok mix_ok Go.Proofs.Try.func64 (by kernel_rfl) ?_
  intro x hw hp Λ hC
  have h0 := h x.1 x.2.1 hw  
  exact Eq.mpr (by kernel_rfl) h0
theorem cBoxed_ok : ConOK Go.Proofs.Try.prog 64 cBoxed := by
  refine cBoxed_law ?_
  intro p b hw
  unfold cBoxed_0
  refine ⟨trivial, ?_⟩
  unfold err6
  by_cases g : validP p = 0
  · rw [if_neg (by simp [g]), if_pos g]
    exact ⟨trivial, rfl, trivial⟩
  · rw [if_pos (by simpa using g), if_neg g]
    exact ⟨rfl, trivial⟩
abbrev cAfter0R : Con := { A := (.cons (.sl tL) (.cons (.sl tR) .nil)), R := (.cons (.sl tR) .nil), pre := fun x => validP x.1 = 0 ∧ validB x.2.1 = true, F := fun x => (afterB x.1 x.2.1, ()) }
def cAfter0R_0  (p : (List Lin)) (b : (List Rng)) (y0 : (List Rng)) : Prop :=
  (validP p = 0 ∧ validB b = true) ∧ (idx (List.length p : Int) (List.length (refSpans p b) : Int) ∧ (((List.getD (refSpans p b) (Int.toNat (List.length p : Int)) ([] : List (List Rng))) ≠ [] ∧ (List.getD (refSpans p b) (Int.toNat (List.length p : Int)) ([] : List (List Rng))).length ≤ 1000 ∧ ∀ q' ∈ (List.getD (refSpans p b) (Int.toNat (List.length p : Int)) ([] : List (List Rng))), validB q' = true) ∧ ((hullL (List.getD (refSpans p b) (Int.toNat (List.length p : Int)) ([] : List (List Rng)))) = y0 ∧ True)))
theorem cAfter0R_law (h : ∀ (p : (List Lin)) (b : (List Rng)), cAfter0R.A.wf (p, b, ()) → (validP p = 0 ∧ validB b = true) → cAfter0R_0  p b (afterB p b)) : ConOK Go.Proofs.Try.prog 65 cAfter0R := by
  refine lawL (Γ := [(70, cHullR), (69, cSpansR)]) (Θ := Th) (n := 13) [] ⟨cHullR_ok, cSpansR_ok, trivial⟩ (by kernel_rfl) th_ok mix_ok Go.Proofs.Try.func65 (by kernel_rfl) ?_
  intro x hw hp Λ hC
  have h0 := h x.1 x.2.1 hw hp  
  exact Eq.mpr (by kernel_rfl) h0
theorem cAfter0R_ok : ConOK Go.Proofs.Try.prog 65 cAfter0R := by
  refine cAfter0R_law ?_
  intro p b hw hp
  unfold cAfter0R_0
  obtain ⟨g1, g2⟩ := hp
  obtain ⟨h8, hall⟩ := validP_ok g1
  have hlen : (refSpans p b).length = p.length + 1 := refTo_len hall g2 (Nat.le_refl _)
  obtain ⟨a1, a2⟩ := hullL_after hall g2
  have bd : ((refSpans p b).getD p.length []).length ≤ 2 * p.length + 1 := refTo_bd p b p.length p.length
  rw [Int.toNat_natCast]
  exact ⟨⟨g1, g2⟩, ⟨by omega, by omega⟩, ⟨a1, by omega, (sim_spans hall g2 (Nat.le_refl _)).2⟩, a2, trivial⟩
abbrev cAfterR : Con := { A := (.cons (.sl tL) (.cons (.sl tR) .nil)), R := (.cons (.sl tR) (.cons .int .nil)), pre := fun x => True, F := fun x => ((if err6 x.1 x.2.1 = 0 then afterB x.1 x.2.1 else []), err6 x.1 x.2.1, ()) }
def cAfterR_0  (p : (List Lin)) (b : (List Rng)) (y0 : (List Rng)) (y1 : Int) : Prop :=
  True ∧ (if ((err6 p b) != (0 : Int)) = true then (([] : List Rng) = y0 ∧ (err6 p b) = y1 ∧ True) else ((validP p = 0 ∧ validB b = true) ∧ ((afterB p b) = y0 ∧ (0 : Int) = y1 ∧ True)))
theorem cAfterR_law (h : ∀ (p : (List Lin)) (b : (List Rng)), cAfterR.A.wf (p, b, ()) → cAfterR_0  p b (if err6 p b = 0 then afterB p b else []) (err6 p b)) : ConOK Go.Proofs.Try.prog 20 cAfterR := by
  refine lawL (Γ := [(65, cAfter0R), (64, cBoxed)]) (Θ := Th) (n := 16) [] ⟨cAfter0R_ok, cBoxed_ok, trivial⟩ (by kernel_rfl) th_ok mix_ok Go.Proofs.Try.func20 (by kernel_rfl) ?_
  intro x hw hp Λ hC
  have h0 := h x.1 x.2.1 hw  
  exact Eq.mpr (by kernel_rfl) h0
theorem cAfterR_ok : ConOK Go.Proofs.Try.prog 20 cAfterR := by
  refine cAfterR_law ?_
  intro p b hw
  unfold cAfterR_0
  refine ⟨trivial, ?_⟩
  by_cases g : err6 p b = 0
  · rw [if_neg (by simp [g]), if_pos g]
    exact ⟨err6_ok g, rfl, g.symm, trivial⟩
  · rw [if_pos (by simpa using g), if_neg g]
    exact ⟨rfl, rfl, trivial⟩
abbrev cBeforeR : Con := { A := (.cons (.sl tL) (.cons (.sl tR) (.cons .int .nil))), R := (.cons (.sl tR) (.cons .bool (.cons .int .nil))), pre := fun x => True, F := fun x => ((if err6 x.1 x.2.1 = 0 then bef6 x.1 x.2.1 x.2.2.1 else []), (err6 x.1 x.2.1 == 0 && was6 x.1 x.2.1 x.2.2.1), bef6E x.1 x.2.1 x.2.2.1, ()) }
def cBeforeR_0  (p : (List Lin)) (b : (List Rng)) (line : Int) (y0 : (List Rng)) (y1 : Bool) (y2 : Int) : Prop :=
  True ∧ (if ((err6 p b) != (0 : Int)) = true then (([] : List Rng) = y0 ∧ false = y1 ∧ (err6 p b) = y2 ∧ True) else (inI ((List.length p : Int) - (1 : Int)) ∧ (True ∧ (if (!(within line (0 : Int) ((List.length p : Int) - (1 : Int)))) = true then (([] : List Rng) = y0 ∧ false = y1 ∧ (4 : Int) = y2 ∧ True) else ((validP p = 0 ∧ validB b = true) ∧ (idx line (List.length (refSpans p b) : Int) ∧ (if ((List.length (List.getD (refSpans p b) (Int.toNat line) ([] : List (List Rng))) : Int) == (0 : Int)) = true then (([] : List Rng) = y0 ∧ false = y1 ∧ (0 : Int) = y2 ∧ True) else (((List.getD (refSpans p b) (Int.toNat line) ([] : List (List Rng))) ≠ [] ∧ (List.getD (refSpans p b) (Int.toNat line) ([] : List (List Rng))).length ≤ 1000 ∧ ∀ q' ∈ (List.getD (refSpans p b) (Int.toNat line) ([] : List (List Rng))), validB q' = true) ∧ ((hullL (List.getD (refSpans p b) (Int.toNat line) ([] : List (List Rng)))) = y0 ∧ true = y1 ∧ (0 : Int) = y2 ∧ True)))))))))
theorem cBeforeR_law (h : ∀ (p : (List Lin)) (b : (List Rng)) (line : Int), cBeforeR.A.wf (p, b, line, ()) → cBeforeR_0  p b line (if err6 p b = 0 then bef6 p b line else []) (err6 p b == 0 && was6 p b line) (bef6E p b line)) : ConOK Go.Proofs.Try.prog 22 cBeforeR := by
  refine lawL (Γ := [(64, cBoxed), (70, cHullR), (69, cSpansR), (68, cWithinR6)]) (Θ := Th) (n := 34) [] ⟨cBoxed_ok, cHullR_ok, cSpansR_ok, cWithinR6_ok, trivial⟩ (by kernel_rfl) th_ok mix_ok Go.Proofs.Try.func22 (by kernel_rfl) ?_
  intro x hw hp Λ hC
  have h0 := h x.1 x.2.1 x.2.2.1 hw  
  exact Eq.mpr (by kernel_rfl) h0
theorem cBeforeR_ok : ConOK Go.Proofs.Try.prog 22 cBeforeR := by
  refine cBeforeR_law ?_
  intro p b line hw
  unfold cBeforeR_0
  refine ⟨trivial, ?_⟩
  by_cases h : err6 p b = 0
  · rw [if_neg (by simp [h])]
    obtain ⟨g1, g2⟩ := err6_ok h
    obtain ⟨h8, hall⟩ := validP_ok g1
    refine ⟨by unfold inI; omega, trivial, ?_⟩
    show if (!(inL p line)) = true then _ else _
    cases hL : inL p line
    · rw [if_pos (by rfl), if_pos h]
      unfold bef6 was6 bef6E
      rw [hL, if_pos h]
      exact ⟨by simp, by simp, by simp, trivial⟩
    · rw [if_neg (by simp)]
      have hr := within_iff.1 (show within line 0 ((p.length : Int) - 1) = true from hL)
      have hlen : (refSpans p b).length = p.length + 1 := refTo_len hall g2 (Nat.le_refl _)
      have bd : ((refSpans p b).getD line.toNat []).length ≤ 2 * p.length + 1 := refTo_bd p b line.toNat p.length
      obtain ⟨s1, s2⟩ := sim_spans hall g2 (j := line.toNat) (by omega)
      unfold bef6 was6 bef6E
      rw [hL, if_pos h, if_pos h, h]
      refine ⟨⟨g1, g2⟩, ⟨by omega, by omega⟩, ?_⟩
      generalize (refSpans p b).getD line.toNat [] = S at bd s1 s2 ⊢
      generalize (spans p b).getD line.toNat dSpot = q at s1 ⊢
      rcases s1 with ⟨rfl, rfl⟩ | ⟨e, rfl⟩
      · exact ⟨rfl, rfl, rfl, trivial⟩
      · rw [if_neg (by simpa using e)]
        exact ⟨⟨e, by omega, s2⟩, rfl, rfl, rfl, trivial⟩
  · rw [if_pos (by simpa using h), if_neg h]
    have hb : (err6 p b == 0) = false := by simpa using h
    unfold bef6E
    rw [hb, if_neg h]
    exact ⟨rfl, rfl, rfl, trivial⟩
abbrev cLinesR : Con := { A := (.cons (.sl tL) (.cons (.sl tR) (.cons .bool .nil))), R := (.cons (.sl .int) (.cons .int .nil)), pre := fun x => True, F := fun x => ((if err6 x.1 x.2.1 = 0 then linesB x.1 x.2.1 x.2.2.1 else []), err6 x.1 x.2.1, ()) }
def cLinesR_0 (Λ1 : Int → (List Int) → Prop) (p : (List Lin)) (b : (List Rng)) (reached : Bool) (y0 : (List Int)) (y1 : Int) : Prop :=
  True ∧ (if ((err6 p b) != (0 : Int)) = true then (([] : List Int) = y0 ∧ (err6 p b) = y1 ∧ True) else ((validP p = 0 ∧ validB b = true) ∧ Λ1 (0 : Int) ([] : List Int)))
def cLinesR_1 (Λ1 : Int → (List Int) → Prop) (p : (List Lin)) (b : (List Rng)) (reached : Bool) (y0 : (List Int)) (y1 : Int)  (i_1 : Int) (out_1 : (List Int)) : Prop :=
  if (decide (i_1 < (List.length p : Int))) = true then (idx i_1 (List.length (refSpans p b) : Int) ∧ (if ((decide ((List.length (List.getD (refSpans p b) (Int.toNat i_1) ([] : List (List Rng))) : Int) > (0 : Int))) == reached) = true then (List.length out_1 + List.length [i_1] ≤ 4294967296 ∧ (inI (i_1 + (1 : Int)) ∧ Λ1 (i_1 + (1 : Int)) (out_1 ++ [i_1]))) else (inI (i_1 + (1 : Int)) ∧ Λ1 (i_1 + (1 : Int)) out_1))) else (out_1 = y0 ∧ (0 : Int) = y1 ∧ True)
theorem cLinesR_law (h : ∀ (p : (List Lin)) (b : (List Rng)) (reached : Bool), cLinesR.A.wf (p, b, reached, ()) → ∀ (Λ1 : Int → (List Int) → Prop), (∀ (i_1 : Int) (out_1 : (List Int)), cLinesR_1 Λ1 p b reached (if err6 p b = 0 then linesB p b reached else []) (err6 p b) i_1 out_1 → Λ1 i_1 out_1) → cLinesR_0 Λ1 p b reached (if err6 p b = 0 then linesB p b reached else []) (err6 p b)) : ConOK Go.Proofs.Try.prog 72 cLinesR := by
  refine lawL (Γ := [(64, cBoxed), (69, cSpansR)]) (Θ := Th) (n := 40) [([1, 1, 1, 1, 0, 1, 0], ⟨[(0, false), (2, false), (9, true), (10, false), (11, true)], [(9, true)]⟩)] ⟨cBoxed_ok, cSpansR_ok, trivial⟩ (by kernel_rfl) th_ok mix_ok Go.Proofs.Try.func72 (by kernel_rfl) ?_
  intro x hw hp Λ hC
  have h0 := h x.1 x.2.1 x.2.2.1 hw (fun i_1 out_1 => Λ [1, 1, 1, 1, 0, 1, 0] ([(0, .d false (.sl tL) x.1), (2, .d false .bool x.2.2.1), (9, .own 9 0), (10, .d false (.sl (.sl (.sl tR))) (refSpans x.1 x.2.1)), (11, .d true .int i_1)], [(9, .sl true .int out_1)])) (fun i_1 out_1 hb => hC [1, 1, 1, 1, 0, 1, 0] ([(0, .d false (.sl tL) x.1), (2, .d false .bool x.2.2.1), (9, .own 9 0), (10, .d false (.sl (.sl (.sl tR))) (refSpans x.1 x.2.1)), (11, .d true .int i_1)], [(9, .sl true .int out_1)]) (Eq.mpr (by kernel_rfl) hb))
  exact Eq.mpr (by kernel_rfl) h0
theorem cLinesR_ok : ConOK Go.Proofs.Try.prog 72 cLinesR := by
  refine cLinesR_law ?_
  intro p b reached hw Λ1 h1
  unfold cLinesR_0
  refine ⟨trivial, ?_⟩
  by_cases h : err6 p b = 0
  · rw [if_neg (by simp [h])]
    obtain ⟨g1, g2⟩ := err6_ok h
    obtain ⟨h8, hall⟩ := validP_ok g1
    refine ⟨⟨g1, g2⟩, ?_⟩
    have hlen : (refSpans p b).length = p.length + 1 := refTo_len hall g2 (Nat.le_refl _)
    have key := upto (n := p.length) (Q := fun i => Λ1 (i : Int) (linesN p b reached i)) ?_ ?_ 0 (Nat.zero_le _)
    · exact key
    · apply h1; unfold cLinesR_1
      rw [if_neg (by simp), if_pos h]
      exact ⟨rfl, h.symm, trivial⟩
    · intro i hi ih
      apply h1; unfold cLinesR_1
      rw [if_pos (by simpa using hi), Int.toNat_natCast]
      refine ⟨idx_nat (by omega), ?_⟩
      rw [sim_reach (sim_spans hall g2 (j := i) (by omega)).1]
      rw [linesN_next] at ih
      have hn := linesN_len p b reached i
      by_cases c : (((spans p b).getD i dSpot).1.1 == reached) = true
      · rw [if_pos c] at ih ⊢
        exact ⟨by simp only [List.length_cons, List.length_nil]; omega, inI_succ hi (by omega), ih⟩
      · rw [if_neg c] at ih ⊢
        exact ⟨inI_succ hi (by omega), ih⟩
  · rw [if_pos (by simpa using h), if_neg h]
    exact ⟨rfl, rfl, trivial⟩
abbrev cReachedR : Con := { A := (.cons (.sl tL) (.cons (.sl tR) .nil)), R := (.cons (.sl .int) (.cons .int .nil)), pre := fun x => True, F := fun x => ((if err6 x.1 x.2.1 = 0 then linesB x.1 x.2.1 true else []), err6 x.1 x.2.1, ()) }
def cReachedR_0  (p : (List Lin)) (b : (List Rng)) (y0 : (List Int)) (y1 : Int) : Prop :=
  True ∧ (((if err6 p b = 0 then linesB p b true else [])) = y0 ∧ (err6 p b) = y1 ∧ True)
theorem cReachedR_law (h : ∀ (p : (List Lin)) (b : (List Rng)), cReachedR.A.wf (p, b, ()) → cReachedR_0  p b (if err6 p b = 0 then linesB p b true else []) (err6 p b)) : ConOK Go.Proofs.Try.prog 25 cReachedR := by
  refine lawL (Γ := [(72, cLinesR)]) (Θ := Th) (n := 11) [] ⟨cLinesR_ok, trivial⟩ (by kernel_rfl) th_ok mix_ok Go.Proofs.Try.func25 (by kernel_rfl) ?_
  intro x hw hp Λ hC
  have h0 := h x.1 x.2.1 hw  
  exact Eq.mpr (by kernel_rfl) h0
theorem cReachedR_ok : ConOK Go.Proofs.Try.prog 25 cReachedR := by
  refine cReachedR_law ?_
  intro p b hw
  unfold cReachedR_0
  exact ⟨trivial, rfl, rfl, trivial⟩
abbrev cDeadR : Con := { A := (.cons (.sl tL) (.cons (.sl tR) .nil)), R := (.cons (.sl .int) (.cons .int .nil)), pre := fun x => True, F := fun x => ((if err6 x.1 x.2.1 = 0 then linesB x.1 x.2.1 false else []), err6 x.1 x.2.1, ()) }
def cDeadR_0  (p : (List Lin)) (b : (List Rng)) (y0 : (List Int)) (y1 : Int) : Prop :=
  True ∧ (((if err6 p b = 0 then linesB p b false else [])) = y0 ∧ (err6 p b) = y1 ∧ True)
theorem cDeadR_law (h : ∀ (p : (List Lin)) (b : (List Rng)), cDeadR.A.wf (p, b, ()) → cDeadR_0  p b (if err6 p b = 0 then linesB p b false else []) (err6 p b)) : ConOK Go.Proofs.Try.prog 27 cDeadR := by
  refine lawL (Γ := [(72, cLinesR)]) (Θ := Th) (n := 11) [] ⟨cLinesR_ok, trivial⟩ (by kernel_rfl) th_ok mix_ok Go.Proofs.Try.func27 (by kernel_rfl) ?_
  intro x hw hp Λ hC
  have h0 := h x.1 x.2.1 hw  
  exact Eq.mpr (by kernel_rfl) h0
theorem cDeadR_ok : ConOK Go.Proofs.Try.prog 27 cDeadR := by
  refine cDeadR_law ?_
  intro p b hw
  unfold cDeadR_0
  exact ⟨trivial, rfl, rfl, trivial⟩
abbrev cLines : Con := { A := (.cons (.sl tL) (.cons (.sl tR) (.cons .bool .nil))), R := (.cons (.sl .int) .nil), pre := fun x => validP x.1 = 0 ∧ validB x.2.1 = true, F := fun x => (linesB x.1 x.2.1 x.2.2.1, ()) }
def cLines_0 (Λ1 : Int → (List Int) → Prop) (p : (List Lin)) (b : (List Rng)) (reached : Bool) (y0 : (List Int)) : Prop :=
  (validP p = 0 ∧ validB b = true) ∧ ((0 ≤ (0 : Int) ∧ (0 : Int) ≤ (List.length p : Int) ∧ (List.length p : Int) ≤ (List.length (spans p b) : Int) ∧ (List.length (spans p b) : Int) ≤ (List.length (spans p b) : Int)) ∧ Λ1 (0 : Int) ([] : List Int))
def cLines_1 (Λ1 : Int → (List Int) → Prop) (p : (List Lin)) (b : (List Rng)) (reached : Bool) (y0 : (List Int))  (t17_1 : Int) (out_1 : (List Int)) : Prop :=
  if (decide (t17_1 < (List.length (List.drop (Int.toNat (0 : Int)) (List.take (Int.toNat (List.length p : Int)) (spans p b))) : Int))) = true then (idx t17_1 (List.length (List.drop (Int.toNat (0 : Int)) (List.take (Int.toNat (List.length p : Int)) (spans p b))) : Int) ∧ (if (((List.getD (List.drop (Int.toNat (0 : Int)) (List.take (Int.toNat (List.length p : Int)) (spans p b))) (Int.toNat t17_1) tSpot.dflt).1).1 == reached) = true then (List.length out_1 + List.length [t17_1] ≤ 4294967296 ∧ (inI (t17_1 + (1 : Int)) ∧ Λ1 (t17_1 + (1 : Int)) (out_1 ++ [t17_1]))) else (inI (t17_1 + (1 : Int)) ∧ Λ1 (t17_1 + (1 : Int)) out_1))) else (out_1 = y0 ∧ True)
theorem cLines_law (h : ∀ (p : (List Lin)) (b : (List Rng)) (reached : Bool), cLines.A.wf (p, b, reached, ()) → (validP p = 0 ∧ validB b = true) → ∀ (Λ1 : Int → (List Int) → Prop), (∀ (t17_1 : Int) (out_1 : (List Int)), cLines_1 Λ1 p b reached (linesB p b reached) t17_1 out_1 → Λ1 t17_1 out_1) → cLines_0 Λ1 p b reached (linesB p b reached)) : ConOK Go.Proofs.Try.prog 71 cLines := by
  refine lawL (Γ := [(67, cSpans)]) (Θ := Th) (n := 33) [([1, 1, 0, 1, 0], ⟨[(2, false), (7, true), (15, true), (16, true), (17, true)], [(7, true), (12, true)]⟩)] ⟨cSpans_ok, trivial⟩ (by kernel_rfl) th_ok mix_ok Go.Proofs.Try.func71 (by kernel_rfl) ?_
  intro x hw hp Λ hC
  have h0 := h x.1 x.2.1 x.2.2.1 hw hp (fun t17_1 out_1 => Λ [1, 1, 0, 1, 0] ([(2, .d false .bool x.2.2.1), (7, .own 7 0), (15, .own 12 0), (16, .d true .int (List.length (List.drop (Int.toNat (0 : Int)) (List.take (Int.toNat (List.length x.1 : Int)) (spans x.1 x.2.1))) : Int)), (17, .d true .int t17_1)], [(7, .sl true .int out_1), (12, .sl true tSpot (List.drop (Int.toNat (0 : Int)) (List.take (Int.toNat (List.length x.1 : Int)) (spans x.1 x.2.1))))])) (fun t17_1 out_1 hb => hC [1, 1, 0, 1, 0] ([(2, .d false .bool x.2.2.1), (7, .own 7 0), (15, .own 12 0), (16, .d true .int (List.length (List.drop (Int.toNat (0 : Int)) (List.take (Int.toNat (List.length x.1 : Int)) (spans x.1 x.2.1))) : Int)), (17, .d true .int t17_1)], [(7, .sl true .int out_1), (12, .sl true tSpot (List.drop (Int.toNat (0 : Int)) (List.take (Int.toNat (List.length x.1 : Int)) (spans x.1 x.2.1))))]) (Eq.mpr (by kernel_rfl) hb))
  exact Eq.mpr (by kernel_rfl) h0
theorem cLines_ok : ConOK Go.Proofs.Try.prog 71 cLines := by
  refine cLines_law ?_
  intro p b reached hw hp Λ1 h1
  unfold cLines_0
  obtain ⟨g1, g2⟩ := hp
  obtain ⟨h8, hall⟩ := validP_ok g1
  have ho : (spans p b).length = p.length + 1 := (spansTo_ok hall g2 p.length (Nat.le_refl _)).1
  refine ⟨⟨g1, g2⟩, ⟨by omega, by omega, by omega, by omega⟩, ?_⟩
  have hl : (List.drop (Int.toNat (0 : Int)) (List.take (Int.toNat (p.length : Int)) (spans p b))).length = p.length := by
    simp; omega
  have key := upto (n := p.length) (Q := fun i => Λ1 (i : Int) (linesN p b reached i)) ?_ ?_ 0 (Nat.zero_le _)
  · exact key
  · apply h1; unfold cLines_1
    rw [hl, if_neg (by simp)]
    exact ⟨rfl, trivial⟩
  · intro i hi ih
    apply h1; unfold cLines_1
    have hg : List.getD (List.drop (Int.toNat (0 : Int)) (List.take (Int.toNat (p.length : Int)) (spans p b))) i tSpot.dflt = (spans p b).getD i dSpot := by
      rw [List.getD_eq_getElem?_getD, List.getD_eq_getElem?_getD, Int.toNat_natCast]
      simp [List.getElem?_take, hi]
    rw [hl, if_pos (by simpa using hi), Int.toNat_natCast i, hg]
    refine ⟨idx_nat hi, ?_⟩
    rw [linesN_next] at ih
    have hn := linesN_len p b reached i
    by_cases c : (((spans p b).getD i dSpot).1.1 == reached) = true
    · rw [if_pos c] at ih ⊢
      exact ⟨by simp only [List.length_cons, List.length_nil]; omega, inI_succ hi (by omega), ih⟩
    · rw [if_neg c] at ih ⊢
      exact ⟨inI_succ hi (by omega), ih⟩
abbrev cReached : Con := { A := (.cons (.sl tL) (.cons (.sl tR) .nil)), R := (.cons (.sl .int) (.cons .int .nil)), pre := fun x => True, F := fun x => ((if err6 x.1 x.2.1 = 0 then linesB x.1 x.2.1 true else []), err6 x.1 x.2.1, ()) }
def cReached_0  (p : (List Lin)) (b : (List Rng)) (y0 : (List Int)) (y1 : Int) : Prop :=
  True ∧ (if (((if validP p = 0 then argErr (validB b) else validP p)) != (0 : Int)) = true then (([] : List Int) = y0 ∧ ((if validP p = 0 then argErr (validB b) else validP p)) = y1 ∧ True) else ((validP p = 0 ∧ validB b = true) ∧ ((linesB p b true) = y0 ∧ (0 : Int) = y1 ∧ True)))
theorem cReached_law (h : ∀ (p : (List Lin)) (b : (List Rng)), cReached.A.wf (p, b, ()) → cReached_0  p b (if err6 p b = 0 then linesB p b true else []) (err6 p b)) : ConOK Go.Proofs.Try.prog 24 cReached := by
  refine lawL (Γ := [(62, cChecked), (71, cLines)]) (Θ := Th) (n := 16) [] ⟨cChecked_ok, cLines_ok, trivial⟩ (by kernel_rfl) th_ok mix_ok Go.Proofs.Try.func24 (by kernel_rfl) ?_
  intro x hw hp Λ hC
  have h0 := h x.1 x.2.1 hw  
  exact Eq.mpr (by kernel_rfl) h0
theorem cReached_ok : ConOK Go.Proofs.Try.prog 24 cReached := by
  refine cReached_law ?_
  intro p b hw
  unfold cReached_0
  refine ⟨trivial, ?_⟩
  show if (err6 p b != 0) = true then _ else _
  by_cases g : err6 p b = 0
  · rw [if_neg (by simp [g]), if_pos g]
    exact ⟨err6_ok g, rfl, g.symm, trivial⟩
  · rw [if_pos (by simpa using g), if_neg g]
    exact ⟨rfl, rfl, trivial⟩
abbrev cDead : Con := { A := (.cons (.sl tL) (.cons (.sl tR) .nil)), R := (.cons (.sl .int) (.cons .int .nil)), pre := fun x => True, F := fun x => ((if err6 x.1 x.2.1 = 0 then linesB x.1 x.2.1 false else []), err6 x.1 x.2.1, ()) }
def cDead_0  (p : (List Lin)) (b : (List Rng)) (y0 : (List Int)) (y1 : Int) : Prop :=
  True ∧ (if (((if validP p = 0 then argErr (validB b) else validP p)) != (0 : Int)) = true then (([] : List Int) = y0 ∧ ((if validP p = 0 then argErr (validB b) else validP p)) = y1 ∧ True) else ((validP p = 0 ∧ validB b = true) ∧ ((linesB p b false) = y0 ∧ (0 : Int) = y1 ∧ True)))
theorem cDead_law (h : ∀ (p : (List Lin)) (b : (List Rng)), cDead.A.wf (p, b, ()) → cDead_0  p b (if err6 p b = 0 then linesB p b false else []) (err6 p b)) : ConOK Go.Proofs.Try.prog 26 cDead := by
  refine lawL (Γ := [(62, cChecked), (71, cLines)]) (Θ := Th) (n := 16) [] ⟨cChecked_ok, cLines_ok, trivial⟩ (by kernel_rfl) th_ok mix_ok Go.Proofs.Try.func26 (by kernel_rfl) ?_
  intro x hw hp Λ hC
  have h0 := h x.1 x.2.1 hw  
  exact Eq.mpr (by kernel_rfl) h0
theorem cDead_ok : ConOK Go.Proofs.Try.prog 26 cDead := by
  refine cDead_law ?_
  intro p b hw
  unfold cDead_0
  refine ⟨trivial, ?_⟩
  show if (err6 p b != 0) = true then _ else _
  by_cases g : err6 p b = 0
  · rw [if_neg (by simp [g]), if_pos g]
    exact ⟨err6_ok g, rfl, g.symm, trivial⟩
  · rw [if_pos (by simpa using g), if_neg g]
    exact ⟨rfl, rfl, trivial⟩
abbrev cSpanAfters : Con := { A := (.cons (.sl tL) (.cons (.sl tR) (.cons .int .nil))), R := (.cons .bool .nil), pre := fun x => True, F := fun x => (true, ()) }
def cSpanAfters_0  (p : (List Lin)) (b : (List Rng)) (line : Int) (y0 : Bool) : Prop :=
  True ∧ (if (decide (100 < p.length)) = true then (true = true ∧ (True ∧ (true = y0 ∧ True))) else (True ∧ (True ∧ (if (bif false then true else (decide (100 < b.length))) = true then (True ∧ (true = y0 ∧ True)) else (True ∧ (True ∧ (True ∧ (True ∧ (((if err6 p b = 0 then afterB p b else [])).length ≤ 1000000 ∧ (if (decide (((if err6 p b = 0 then afterB p b else [])) = ((if err6 p b = 0 then afterB p b else [])))) = true then (True ∧ (if (bif true then ((err6 p b) == (err6 p b)) else false) = true then (((if err6 p b = 0 then bef6 p b line else [])).length ≤ 1000000 ∧ (True ∧ (if (bif true then (decide (((if err6 p b = 0 then bef6 p b line else [])) = ((if err6 p b = 0 then bef6 p b line else [])))) else false) = true then (True ∧ (if (bif true then (((err6 p b == 0 && was6 p b line)) == ((err6 p b == 0 && was6 p b line))) else false) = true then (True ∧ (if (bif true then ((bef6E p b line) == (bef6E p b line)) else false) = true then (True ∧ (True ∧ ((bif true then true else false) = y0 ∧ True))) else (false = false ∧ (false = y0 ∧ True)))) else (false = false ∧ (false = false ∧ (false = y0 ∧ True))))) else (false = false ∧ (false = false ∧ (false = false ∧ (false = y0 ∧ True))))))) else (false = false ∧ (false = false ∧ (false = false ∧ (false = false ∧ (false = y0 ∧ True))))))) else (false = false ∧ (false = false ∧ (false = false ∧ (false = false ∧ (false = false ∧ (false = y0 ∧ True))))))))))))))))
theorem cSpanAfters_law (h : ∀ (p : (List Lin)) (b : (List Rng)) (line : Int), cSpanAfters.A.wf (p, b, line, ()) → cSpanAfters_0  p b line true) : ConOK Go.Proofs.Try.prog 3 cSpanAfters := by
  refine lawL (Γ := [(19, cAfter), (20, cAfterR), (21, cBefore6), (22, cBeforeR), (18, cKnown6), (17, cLongB), (16, cLongL), (23, cSameR)]) (Θ := Th) (n := 78) [] ⟨cAfter_ok, cAfterR_ok, cBefore6_ok, cBeforeR_ok, cKnown6_ok, cLongB_ok, cLongL_ok, cSameR_ok, trivial⟩ (by kernel_rfl) th_ok mix_ok Go.Proofs.Try.func3 (by kernel_rfl) ?_
  intro x hw hp Λ hC
  have h0 := h x.1 x.2.1 x.2.2.1 hw  
  exact Eq.mpr (by kernel_rfl) h0
theorem cSpanAfters_ok : ConOK Go.Proofs.Try.prog 3 cSpanAfters := by
  refine cSpanAfters_law ?_
  intro p b line hw
  unfold cSpanAfters_0
  by_cases c1 : 100 < p.length
  · simp [c1]
  by_cases c2 : 100 < b.length
  · simp [c1, c2]
  have l1 : (if err6 p b = 0 then afterB p b else []).length ≤ 1000000 := by
    by_cases g : err6 p b = 0
    · obtain ⟨g1, g2⟩ := err6_ok g
      have := validB_len (afterB_ok (validP_ok g1).2 g2)
      rw [if_pos g]; omega
    · rw [if_neg g]; simp
  have l2 : (if err6 p b = 0 then bef6 p b line else []).length ≤ 1000000 := by
    by_cases g : err6 p b = 0
    · obtain ⟨g1, g2⟩ := err6_ok g
      rw [if_pos g]
      unfold bef6
      split
      · rename_i hL
        have hr := within_iff.1 (show within line 0 ((p.length : Int) - 1) = true from hL)
        have s1 := sim_spans (validP_ok g1).2 g2 (j := line.toNat) (by omega)
        generalize (refSpans p b).getD line.toNat [] = S at s1
        generalize (spans p b).getD line.toNat dSpot = q at s1 ⊢
        rcases s1.1 with ⟨rfl, rfl⟩ | ⟨e, rfl⟩
        · exact Nat.zero_le _
        · have := validB_len (hullL_ok e s1.2)
          show (hullL S).length ≤ _
          omega
      · exact Nat.zero_le _
    · rw [if_neg g]; simp
  generalize (if err6 p b = 0 then afterB p b else []) = X at l1 ⊢
  generalize (if err6 p b = 0 then bef6 p b line else []) = Y at l2 ⊢
  simp [c1, c2, l1, l2]
abbrev cSpanReaches : Con := { A := (.cons (.sl tL) (.cons (.sl tR) .nil)), R := (.cons .bool .nil), pre := fun x => True, F := fun x => (true, ()) }
def cSpanReaches_0  (p : (List Lin)) (b : (List Rng)) (y0 : Bool) : Prop :=
  True ∧ (if (decide (100 < p.length)) = true then (true = true ∧ (True ∧ (true = y0 ∧ True))) else (True ∧ (True ∧ (if (bif false then true else (decide (100 < b.length))) = true then (True ∧ (true = y0 ∧ True)) else (True ∧ (True ∧ (True ∧ (True ∧ (((if err6 p b = 0 then linesB p b true else [])).length ≤ 1000000 ∧ (if (decide (((if err6 p b = 0 then linesB p b true else [])) = ((if err6 p b = 0 then linesB p b true else [])))) = true then (True ∧ (if (bif true then ((err6 p b) == (err6 p b)) else false) = true then (((if err6 p b = 0 then linesB p b false else [])).length ≤ 1000000 ∧ (True ∧ (if (bif true then (decide (((if err6 p b = 0 then linesB p b false else [])) = ((if err6 p b = 0 then linesB p b false else [])))) else false) = true then (True ∧ (if (bif true then ((err6 p b) == (err6 p b)) else false) = true then (if ((err6 p b) != (0 : Int)) = true then (true = true ∧ (True ∧ (if (bif true then true else false) = true then (True ∧ (True ∧ ((bif true then true else false) = y0 ∧ True))) else (false = false ∧ (false = y0 ∧ True))))) else (inI ((List.length ((if err6 p b = 0 then linesB p b true else [])) : Int) + (List.length ((if err6 p b = 0 then linesB p b false else [])) : Int)) ∧ (True ∧ (True ∧ (if (bif true then (bif false then true else (((List.length ((if err6 p b = 0 then linesB p b true else [])) : Int) + (List.length ((if err6 p b = 0 then linesB p b false else [])) : Int)) == (List.length p : Int))) else false) = true then (True ∧ (True ∧ ((bif true then true else false) = y0 ∧ True))) else (false = false ∧ (false = y0 ∧ True))))))) else (false = false ∧ (false = false ∧ (false = y0 ∧ True))))) else (false = false ∧ (false = false ∧ (false = false ∧ (false = y0 ∧ True))))))) else (false = false ∧ (false = false ∧ (false = false ∧ (false = false ∧ (false = y0 ∧ True))))))) else (false = false ∧ (false = false ∧ (false = false ∧ (false = false ∧ (false = false ∧ (false = y0 ∧ True))))))))))))))))
theorem cSpanReaches_law (h : ∀ (p : (List Lin)) (b : (List Rng)), cSpanReaches.A.wf (p, b, ()) → cSpanReaches_0  p b true) : ConOK Go.Proofs.Try.prog 4 cSpanReaches := by
  refine lawL (Γ := [(26, cDead), (27, cDeadR), (18, cKnown6), (17, cLongB), (16, cLongL), (24, cReached), (25, cReachedR), (28, cSameIntsR)]) (Θ := Th) (n := 79) [] ⟨cDead_ok, cDeadR_ok, cKnown6_ok, cLongB_ok, cLongL_ok, cReached_ok, cReachedR_ok, cSameIntsR_ok, trivial⟩ (by kernel_rfl) th_ok mix_ok Go.Proofs.Try.func4 (by kernel_rfl) ?_
  intro x hw hp Λ hC
  have h0 := h x.1 x.2.1 hw  
  exact Eq.mpr (by kernel_rfl) h0
theorem cSpanReaches_ok : ConOK Go.Proofs.Try.prog 4 cSpanReaches := by
  refine cSpanReaches_law ?_
  intro p b hw
  unfold cSpanReaches_0
  by_cases c1 : 100 < p.length
  · simp [c1]
  by_cases c2 : 100 < b.length
  · simp [c1, c2]
  by_cases g : err6 p b = 0
  · have hb := linesN_both p b p.length
    have l1 : (linesB p b true).length ≤ 1000000 := by have := linesN_len p b true p.length; unfold linesB; omega
    have l2 : (linesB p b false).length ≤ 1000000 := by have := linesN_len p b false p.length; unfold linesB; omega
    have e : ((linesB p b true).length : Int) + (linesB p b false).length = p.length := by unfold linesB; omega
    have in1 : inI (((linesB p b true).length : Int) + (linesB p b false).length) := by unfold inI; omega
    have in2 : inI (p.length : Int) := by unfold inI; omega
    simp [c1, c2, g, l1, l2, e, in1, in2]
  · simp [c1, c2, g]
end Go.Tk
