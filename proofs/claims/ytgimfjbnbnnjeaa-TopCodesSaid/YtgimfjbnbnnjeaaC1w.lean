/- Layer 1: Force at one input; the document's lists (contracts for TopCodes). -/
import Derived.Test.YtgimfjbnbnnjeaaC1u
import Derived.Test.YtgimfjbnbnnjeaaC1v
import Derived.Shelf.SlicesG.SearchI
set_option linter.unusedSimpArgs false
set_option linter.unusedVariables false
set_option linter.unnecessarySimpa false
namespace Go.Proofs
open Go.RowKit Go.Sort Go.Shelf
shelf_lay_g SlLaysN.n49 Slgn 49 at Try 26 as Try.searchI
end Go.Proofs
namespace Go.Tk
open Go Go.RowKit
abbrev cBinS : Con := { A := (.cons (.sl .int) (.cons .int .nil)), R := (.cons .int (.cons .bool .nil)), pre := fun x => x.1 ≠ [] ∧ x.1.length ≤ 1000000 ∧ x.1.Pairwise (· ≤ ·), F := fun x => (((x.1.countP (fun v' => decide (v' < x.2.1)) : Nat) : Int), x.1.contains x.2.1, ()) }
theorem cBinS_ok : ConOK Go.Proofs.Try.prog 26 cBinS := by
  refine ConOK.f ?_ rfl
  rintro w S ⟨xs, t, ⟨⟩⟩ vs hv ⟨hne, hlen, hpw⟩
  change List Int at xs
  change Int at t
  obtain ⟨v1, vs1, b1, b2, rfl, _, h1, h2⟩ := hv
  obtain ⟨v2, vs2, b3, b4, rfl, _, h3, h4⟩ := h2
  obtain ⟨rfl, _⟩ : vs2 = [] ∧ _ := h4
  obtain ⟨_, c1, rfl, q1⟩ := h1
  obtain ⟨_, c2, rfl, q2, _⟩ := h3
  obtain ⟨v, rfl, ao, cap, rfl, hc, hl, hd⟩ := q1
  change c2 = [.int .i64 t] at q2
  subst q2
  rcases hd with h | ⟨b, off, cs, rfl, hSb, hb, hcells, hrep⟩
  · exact absurd h hne
  · obtain ⟨hx, hin⟩ := repL_ints hrep
    subst hx
    have hlen : xs.length ≤ 1000000 := hlen
    have hpw : xs.Pairwise (· ≤ ·) := hpw
    refine (Go.Proofs.AnyG.slices_BinarySearch_int Go.Proofs.Try.searchI b off xs.length cap xs t w (Nat.le_refl _) (by omega) (fun j hj => hcells j _ (by simp [List.getD_eq_getElem?_getD, hj])) (by rw [List.take_length]; exact hpw)).mono ?_
    rintro e w' ⟨rfl, q, rfl⟩
    rw [List.take_length]
    refine ⟨[.int .i64 _, .bool _], [], rfl, ⟨_, _, [], [], rfl, rfl, ⟨rfl, _, rfl, rfl, ?_⟩, ⟨_, _, [], [], rfl, rfl, ⟨rfl, _, rfl, rfl⟩, rfl, rfl⟩⟩, by simp, by simp, ⟨rfl, rfl, rfl, Nat.le_refl _, fun _ _ => rfl⟩⟩
    have : xs.countP (fun v' => decide (v' < t)) ≤ xs.length := List.countP_le_length
    show inI ((xs.countP (fun v' => decide (v' < t)) : Nat) : Int)
    unfold inI; omega
abbrev cIsSetC : Con := { A := (.cons (.sl .int) .nil), R := (.cons .bool .nil), pre := fun x => x.1.length ≤ 1, F := fun x => (true, ()) }
def cIsSetC_0 (Λ1 : Int → Prop) (l : (List Int)) (y0 : Bool) : Prop :=
  Λ1 (1 : Int)
def cIsSetC_1 (Λ1 : Int → Prop) (l : (List Int)) (y0 : Bool)  (i_1 : Int) : Prop :=
  if (decide (i_1 < (List.length l : Int))) = true then (idx i_1 (List.length l : Int) ∧ (inI (i_1 - (1 : Int)) ∧ (idx (i_1 - (1 : Int)) (List.length l : Int) ∧ (if (decide ((List.getD l (Int.toNat i_1) 0) ≤ (List.getD l (Int.toNat (i_1 - (1 : Int))) 0))) = true then (false = y0 ∧ True) else (inI (i_1 + (1 : Int)) ∧ Λ1 (i_1 + (1 : Int))))))) else (true = y0 ∧ True)
theorem cIsSetC_law (h : ∀ (l : (List Int)), cIsSetC.A.wf (l, ()) → (l.length ≤ 1) → ∀ (Λ1 : Int → Prop), (∀ (i_1 : Int), cIsSetC_1 Λ1 l true i_1 → Λ1 i_1) → cIsSetC_0 Λ1 l true) : ConOK Go.Proofs.Try.prog 18 cIsSetC := by
  refine lawL (Γ := []) (Θ := Th) (n := 20) [([1, 0, 1, 0], ⟨[(0, false), (3, true)], []⟩)] trivial (by kernel_rfl) th_ok mix_ok Go.Proofs.Try.func18 (by kernel_rfl) ?_
  intro x hw hp Λ hC
  have h0 := h x.1 hw hp (fun i_1 => Λ [1, 0, 1, 0] ([(0, .d false (.sl .int) x.1), (3, .d true .int i_1)], [])) (fun i_1 hb => hC [1, 0, 1, 0] ([(0, .d false (.sl .int) x.1), (3, .d true .int i_1)], []) (Eq.mpr (by kernel_rfl) hb))
  exact Eq.mpr (by kernel_rfl) h0
theorem cIsSetC_ok : ConOK Go.Proofs.Try.prog 18 cIsSetC := by
  refine cIsSetC_law ?_
  intro l hw hp Λ1 h1
  unfold cIsSetC_0
  apply h1; unfold cIsSetC_1
  rw [if_neg (by simp; omega)]
  exact ⟨rfl, trivial⟩
abbrev cForce1 : Con := { A := (.cons .int (.cons (.ref (.sl tL)) .nil)), R := (.cons .bool .nil), pre := fun x => True, F := fun x => (!(within x.1 0 ((x.2.1.length : Int) - 1)), ()) }
def cForce1_0  (i : Int) (c0 : (List Lin)) (y0 : Bool) : Prop :=
  inI ((List.length c0 : Int) - (1 : Int)) ∧ (True ∧ ((!(within i (0 : Int) ((List.length c0 : Int) - (1 : Int)))) = y0 ∧ True))
theorem cForce1_law (h : ∀ (i : Int) (c0 : (List Lin)), cForce1.A.wf (i, c0, ()) → cForce1_0  i c0 (!(within i 0 ((c0.length : Int) - 1)))) : ConOK Go.Proofs.Try.prog 20 cForce1 := by
  refine lawL (Γ := [(21, cWithin1)]) (Θ := Th) (n := 10) [] ⟨cWithin1_ok, trivial⟩ (by kernel_rfl) th_ok mix_ok Go.Proofs.Try.func20 (by kernel_rfl) ?_
  intro x hw hp Λ hC
  have h0 := h x.1 x.2.1 hw  
  exact Eq.mpr (by kernel_rfl) h0
theorem cForce1_ok : ConOK Go.Proofs.Try.prog 20 cForce1 := by
  refine cForce1_law ?_
  intro i c0 hw
  unfold cForce1_0
  have hl : c0.length ≤ 140737488355328 := hw.2.1.1
  exact ⟨by unfold inI; omega, trivial, rfl, trivial⟩
abbrev cForce2 : Con := { A := (.cons .int .nil), R := (.cons .bool .nil), pre := fun x => True, F := fun x => (!(isVal x.1), ()) }
def cForce2_0  (n : Int) (y0 : Bool) : Prop :=
  True ∧ ((!(within n (-999 : Int) (999 : Int))) = y0 ∧ True)
theorem cForce2_law (h : ∀ (n : Int), cForce2.A.wf (n, ()) → cForce2_0  n (!(isVal n))) : ConOK Go.Proofs.Try.prog 22 cForce2 := by
  refine lawL (Γ := [(21, cWithin1)]) (Θ := Th) (n := 6) [] ⟨cWithin1_ok, trivial⟩ (by kernel_rfl) th_ok mix_ok Go.Proofs.Try.func22 (by kernel_rfl) ?_
  intro x hw hp Λ hC
  have h0 := h x.1 hw  
  exact Eq.mpr (by kernel_rfl) h0
theorem cForce2_ok : ConOK Go.Proofs.Try.prog 22 cForce2 := by
  refine cForce2_law ?_
  intro n hw
  unfold cForce2_0
  exact ⟨trivial, rfl, trivial⟩
abbrev cForce3 : Con := { A := (.cons .int (.cons (.ref (.sl .int)) (.cons (.ref (.sl .int)) .nil))), R := (.cons .int (.cons .bool .nil)), pre := fun x => x.2.1 = [0] ∧ x.2.2.1 = [5], F := fun x => ((if x.1 = 0 then 5 else 0), decide (x.1 = 0), ()) }
def cForce3_0  (line : Int) (c0 : (List Int)) (c1 : (List Int)) (y0 : Int) (y1 : Bool) : Prop :=
  (c0 ≠ [] ∧ c0.length ≤ 1000000 ∧ c0.Pairwise (· ≤ ·)) ∧ (if (!(c0.contains line)) = true then ((0 : Int) = y0 ∧ false = y1 ∧ True) else (idx (((c0.countP (fun v' => decide (v' < line)) : Nat) : Int)) (List.length c1 : Int) ∧ ((List.getD c1 (Int.toNat (((c0.countP (fun v' => decide (v' < line)) : Nat) : Int))) 0) = y0 ∧ true = y1 ∧ True)))
theorem cForce3_law (h : ∀ (line : Int) (c0 : (List Int)) (c1 : (List Int)), cForce3.A.wf (line, c0, c1, ()) → (c0 = [0] ∧ c1 = [5]) → cForce3_0  line c0 c1 (if line = 0 then 5 else 0) (decide (line = 0))) : ConOK Go.Proofs.Try.prog 25 cForce3 := by
  refine lawL (Γ := [(26, cBinS)]) (Θ := Th) (n := 20) [] ⟨cBinS_ok, trivial⟩ (by kernel_rfl) th_ok mix_ok Go.Proofs.Try.func25 (by kernel_rfl) ?_
  intro x hw hp Λ hC
  have h0 := h x.1 x.2.1 x.2.2.1 hw hp  
  exact Eq.mpr (by kernel_rfl) h0
theorem cForce3_ok : ConOK Go.Proofs.Try.prog 25 cForce3 := by
  refine cForce3_law ?_
  intro line c0 c1 hw hp
  unfold cForce3_0
  obtain ⟨rfl, rfl⟩ := hp
  refine ⟨⟨by simp, by simp, by simp⟩, ?_⟩
  by_cases h : line = 0
  · subst h
    rw [if_neg (by decide)]
    exact ⟨⟨by decide, by decide⟩, rfl, rfl, trivial⟩
  · have hc : List.contains [(0 : Int)] line = false := by simp [h]
    rw [hc, if_pos (by rfl), if_neg h]
    exact ⟨rfl, by simp [h], trivial⟩
abbrev cForce : Con := { A := (.cons (.sl tL) (.cons (.sl .int) (.cons (.sl .int) (.cons (.sl .int) .nil)))), R := (.cons (.osl .int) (.cons .int .nil)), pre := fun x => x.1 = ([(1, 0, 3, 0, ()), (3, 0, 0, 0, ())] : List Lin) ∧ x.2.1 = [0, 0, 0, 0] ∧ x.2.2.1 = [0] ∧ x.2.2.2.1 = [5], F := fun x => ([10, 0, 0, 0], 0, ()) }
def cForce_0 (Λ1 : Int → Prop) (p : (List Lin)) (in_ : (List Int)) (lines : (List Int)) (values : (List Int)) (y0 : (List Int)) (y1 : Int) : Prop :=
  True ∧ (if (((if validP p = 0 then argErr (validS in_) else validP p)) != (0 : Int)) = true then (((if validP p = 0 then argErr (validS in_) else validP p)) = y1 ∧ ([] : List Int) = y0) else (lines.length ≤ 1 ∧ ((∀ r, inI r → (fun (xx : (Int × Unit)) => True, fun (xx : (Int × Unit)) => (!(within xx.1 0 ((p.length : Int) - 1)), ())).1 (r, ())) ∧ (if (lines.any (fun r => ((fun (xx : (Int × Unit)) => True, fun (xx : (Int × Unit)) => (!(within xx.1 0 ((p.length : Int) - 1)), ())).2 (r, ())).1)) = true then ((4 : Int) = y1 ∧ ([] : List Int) = y0) else (if ((List.length values : Int) != (List.length lines : Int)) = true then ((9 : Int) = y1 ∧ ([] : List Int) = y0) else ((∀ r, inI r → (fun (xx : (Int × Unit)) => True, fun (xx : (Int × Unit)) => (!(isVal xx.1), ())).1 (r, ())) ∧ (if (values.any (fun r => ((fun (xx : (Int × Unit)) => True, fun (xx : (Int × Unit)) => (!(isVal xx.1), ())).2 (r, ())).1)) = true then ((1 : Int) = y1 ∧ ([] : List Int) = y0) else Λ1 (0 : Int))))))))
def cForce_1 (Λ1 : Int → Prop) (p : (List Lin)) (in_ : (List Int)) (lines : (List Int)) (values : (List Int)) (y0 : (List Int)) (y1 : Int)  (t38_1 : Int) : Prop :=
  if (decide (t38_1 < (List.length lines : Int))) = true then (idx t38_1 (List.length lines : Int) ∧ (idx (List.getD lines (Int.toNat t38_1) 0) (List.length p : Int) ∧ (True ∧ (if (!(writes (List.getD p (Int.toNat (List.getD lines (Int.toNat t38_1) 0)) tL.dflt))) = true then ((6 : Int) = y1 ∧ ([] : List Int) = y0) else (inI (t38_1 + (1 : Int)) ∧ Λ1 (t38_1 + (1 : Int))))))) else ((validP p = 0 ∧ validS in_ = true ∧ ∀ i', (fun (xx : (Int × Unit)) => lines = [0] ∧ values = [5], fun (xx : (Int × Unit)) => ((if xx.1 = 0 then 5 else 0), decide (xx.1 = 0), ())).1 (i', ())) ∧ (True ∧ ((0 : Int) = y1 ∧ (endS p (frcOf (fun (xx : (Int × Unit)) => lines = [0] ∧ values = [5], fun (xx : (Int × Unit)) => ((if xx.1 = 0 then 5 else 0), decide (xx.1 = 0), ())).2) in_) = y0)))
theorem cForce_law (h : ∀ (p : (List Lin)) (in_ : (List Int)) (lines : (List Int)) (values : (List Int)), cForce.A.wf (p, in_, lines, values, ()) → (p = ([(1, 0, 3, 0, ()), (3, 0, 0, 0, ())] : List Lin) ∧ in_ = [0, 0, 0, 0] ∧ lines = [0] ∧ values = [5]) → ∀ (Λ1 : Int → Prop), (∀ (t38_1 : Int), cForce_1 Λ1 p in_ lines values [10, 0, 0, 0] 0 t38_1 → Λ1 t38_1) → cForce_0 Λ1 p in_ lines values [10, 0, 0, 0] 0) : ConOK Go.Proofs.Try.prog 4 cForce := by
  refine lawX (X := { subs := [], frz := [4, 6, 7], U := [], mul := [], nst := [], nls := [], itf := none, inp := [], arrs := [] }) (hX := xok0 _ trivial) (Γ := [(17, cCheck1), (19, cContI), (20, cForce1), (22, cForce2), (25, cForce3), (18, cIsSetC), (24, cRun0), (23, cWrites1)]) (Θ := Th) (n := 61) [([1, 1, 1, 1, 1, 1, 0, 1, 0], ⟨[(1, false), (4, false), (6, false), (7, false), (36, false), (37, true), (38, true)], []⟩)] ⟨cCheck1_ok, cContI_ok, cForce1_ok, cForce2_ok, cForce3_ok, cIsSetC_ok, cRun0_ok, cWrites1_ok, trivial⟩ (by kernel_rfl) th_ok mix_ok Go.Proofs.Try.func4 (by kernel_rfl) ?_
  intro x hw hp Λ hC
  have h0 := h x.1 x.2.1 x.2.2.1 x.2.2.2.1 hw hp (fun t38_1 => Λ [1, 1, 1, 1, 1, 1, 0, 1, 0] ([(1, .d false (.sl .int) x.2.1), (4, .ept false (.sl tL) x.1), (6, .ept false (.sl .int) x.2.2.1), (7, .ept false (.sl .int) x.2.2.2.1), (36, .d false (.sl .int) x.2.2.1), (37, .d true .int (List.length x.2.2.1 : Int)), (38, .d true .int t38_1)], [])) (fun t38_1 hb => hC [1, 1, 1, 1, 1, 1, 0, 1, 0] ([(1, .d false (.sl .int) x.2.1), (4, .ept false (.sl tL) x.1), (6, .ept false (.sl .int) x.2.2.1), (7, .ept false (.sl .int) x.2.2.2.1), (36, .d false (.sl .int) x.2.2.1), (37, .d true .int (List.length x.2.2.1 : Int)), (38, .d true .int t38_1)], []) (Eq.mpr (by kernel_rfl) hb))
  exact Eq.mpr (by kernel_rfl) h0
theorem cForce_ok : ConOK Go.Proofs.Try.prog 4 cForce := by
  refine cForce_law ?_
  intro p in_ lines values hw hp Λ1 h1
  unfold cForce_0
  obtain ⟨rfl, rfl, rfl, rfl⟩ := hp
  refine ⟨trivial, ?_⟩
  rw [if_neg (by decide)]
  refine ⟨by decide, fun _ _ => trivial, ?_⟩
  rw [if_neg (by decide), if_neg (by decide)]
  refine ⟨fun _ _ => trivial, ?_⟩
  rw [if_neg (by decide)]
  have last : Λ1 (1 : Int) := by
    apply h1; unfold cForce_1
    rw [if_neg (by decide)]
    exact ⟨⟨by decide, by decide, fun _ => ⟨rfl, rfl⟩⟩, trivial, rfl, by rfl⟩
  apply h1; unfold cForce_1
  rw [if_pos (by decide)]
  refine ⟨⟨by decide, by decide⟩, ⟨by decide, by decide⟩, trivial, ?_⟩
  rw [if_neg (by decide)]
  exact ⟨by unfold inI; omega, last⟩
abbrev cHasR1 : Con := { A := (.cons (.sl .int) (.cons .int .nil)), R := (.cons .bool .nil), pre := fun x => True, F := fun x => (decide (x.2.1 ∈ x.1), ()) }
def cHasR1_0 (Λ1 : Int → Prop) (l : (List Int)) (n : Int) (y0 : Bool) : Prop :=
  Λ1 (0 : Int)
def cHasR1_1 (Λ1 : Int → Prop) (l : (List Int)) (n : Int) (y0 : Bool)  (i_1 : Int) : Prop :=
  if (decide (i_1 < (List.length l : Int))) = true then (idx i_1 (List.length l : Int) ∧ (if ((List.getD l (Int.toNat i_1) 0) == n) = true then (true = y0 ∧ True) else (inI (i_1 + (1 : Int)) ∧ Λ1 (i_1 + (1 : Int))))) else (false = y0 ∧ True)
theorem cHasR1_law (h : ∀ (l : (List Int)) (n : Int), cHasR1.A.wf (l, n, ()) → ∀ (Λ1 : Int → Prop), (∀ (i_1 : Int), cHasR1_1 Λ1 l n (decide (n ∈ l)) i_1 → Λ1 i_1) → cHasR1_0 Λ1 l n (decide (n ∈ l))) : ConOK Go.Proofs.Try.prog 11 cHasR1 := by
  refine lawL (Γ := []) (Θ := Th) (n := 18) [([1, 0, 1, 0], ⟨[(0, false), (1, false), (5, true)], []⟩)] trivial (by kernel_rfl) th_ok mix_ok Go.Proofs.Try.func11 (by kernel_rfl) ?_
  intro x hw hp Λ hC
  have h0 := h x.1 x.2.1 hw (fun i_1 => Λ [1, 0, 1, 0] ([(0, .d false (.sl .int) x.1), (1, .d false .int x.2.1), (5, .d true .int i_1)], [])) (fun i_1 hb => hC [1, 0, 1, 0] ([(0, .d false (.sl .int) x.1), (1, .d false .int x.2.1), (5, .d true .int i_1)], []) (Eq.mpr (by kernel_rfl) hb))
  exact Eq.mpr (by kernel_rfl) h0
theorem cHasR1_ok : ConOK Go.Proofs.Try.prog 11 cHasR1 := by
  refine cHasR1_law ?_
  intro l n hw Λ1 h1
  unfold cHasR1_0
  refine upto (n := l.length) (Q := fun i => (l.take i).any (fun r => r == n) = false → Λ1 i) ?_ ?_ 0 (Nat.zero_le _) rfl
  · intro ha
    rw [List.take_length] at ha
    apply h1; unfold cHasR1_1; rw [if_neg (by simp)]
    refine ⟨?_, trivial⟩
    have : ¬ n ∈ l := fun h => by
      have := List.any_eq_false.1 ha n h
      simp at this
    simp [this]
  · intro i hi ih ha
    apply h1; unfold cHasR1_1; rw [if_pos (by simpa using hi), Int.toNat_natCast]
    refine ⟨idx_nat hi, ?_⟩
    cases hv : (List.getD l i 0 == n)
    · rw [if_neg (by simp)]
      exact ⟨inI_succ hi hw.1.1, ih (any_take_next (p := fun r => r == n) 0 hi ha hv)⟩
    · rw [if_pos (by rfl)]
      have : n ∈ l := by
        have e := eq_of_beq hv
        rw [← e]; exact mem_getD hi
      exact ⟨by simp [this], trivial⟩
abbrev cSameR1 : Con := { A := (.cons (.sl tL) (.cons (.sl tL) .nil)), R := (.cons .bool .nil), pre := fun x => True, F := fun x => (decide (x.1 = x.2.1), ()) }
def cSameR1_0 (Λ1 : Int → Prop) (a : (List Lin)) (b : (List Lin)) (y0 : Bool) : Prop :=
  if ((List.length a : Int) != (List.length b : Int)) = true then (false = y0 ∧ True) else Λ1 (0 : Int)
def cSameR1_1 (Λ1 : Int → Prop) (a : (List Lin)) (b : (List Lin)) (y0 : Bool)  (i_1 : Int) : Prop :=
  if (decide (i_1 < (List.length a : Int))) = true then (idx i_1 (List.length a : Int) ∧ (idx i_1 (List.length b : Int) ∧ (if (!(T.eqB tL (List.getD a (Int.toNat i_1) tL.dflt) (List.getD b (Int.toNat i_1) tL.dflt))) = true then (false = y0 ∧ True) else (inI (i_1 + (1 : Int)) ∧ Λ1 (i_1 + (1 : Int)))))) else (true = y0 ∧ True)
theorem cSameR1_law (h : ∀ (a : (List Lin)) (b : (List Lin)), cSameR1.A.wf (a, b, ()) → ∀ (Λ1 : Int → Prop), (∀ (i_1 : Int), cSameR1_1 Λ1 a b (decide (a = b)) i_1 → Λ1 i_1) → cSameR1_0 Λ1 a b (decide (a = b))) : ConOK Go.Proofs.Try.prog 14 cSameR1 := by
  refine lawL (Γ := []) (Θ := Th) (n := 26) [([1, 1, 0, 1, 0], ⟨[(0, false), (1, false), (5, true)], []⟩)] trivial (by kernel_rfl) th_ok mix_ok Go.Proofs.Try.func14 (by kernel_rfl) ?_
  intro x hw hp Λ hC
  have h0 := h x.1 x.2.1 hw (fun i_1 => Λ [1, 1, 0, 1, 0] ([(0, .d false (.sl tL) x.1), (1, .d false (.sl tL) x.2.1), (5, .d true .int i_1)], [])) (fun i_1 hb => hC [1, 1, 0, 1, 0] ([(0, .d false (.sl tL) x.1), (1, .d false (.sl tL) x.2.1), (5, .d true .int i_1)], []) (Eq.mpr (by kernel_rfl) hb))
  exact Eq.mpr (by kernel_rfl) h0
theorem cSameR1_ok : ConOK Go.Proofs.Try.prog 14 cSameR1 := by
  refine cSameR1_law ?_
  intro a b hw Λ1 h1
  unfold cSameR1_0
  have ha1 := hw.1.1
  by_cases hl : a.length = b.length
  · rw [if_neg (by simp [hl])]
    refine upto (n := a.length) (Q := fun i => a.take i = b.take i → Λ1 i) ?_ ?_ 0 (Nat.zero_le _) rfl
    · intro ha
      rw [List.take_length, List.take_of_length_le (by omega)] at ha
      apply h1; unfold cSameR1_1; rw [if_neg (by simp)]
      exact ⟨by simp [ha], trivial⟩
    · intro i hi ih ha
      apply h1; unfold cSameR1_1; rw [if_pos (by simpa using hi), Int.toNat_natCast]
      refine ⟨idx_nat hi, idx_nat (by omega), ?_⟩
      have heq := eqB_iff (t := tL) (x := List.getD a i tL.dflt) (y := List.getD b i tL.dflt) rfl
      by_cases hv : List.getD a i tL.dflt = List.getD b i tL.dflt
      · rw [if_neg (by rw [heq.2 hv]; simp)]
        exact ⟨inI_succ hi ha1, ih (take_eq_next tL.dflt hi hl ha hv)⟩
      · rw [if_pos (by
          cases hq : T.eqB tL (List.getD a i tL.dflt) (List.getD b i tL.dflt)
          · rfl
          · exact absurd (heq.1 hq) hv)]
        exact ⟨by simp [ne_at tL.dflt hv], trivial⟩
  · rw [if_pos (by simp; omega)]
    exact ⟨by simp; exact fun e => hl (by rw [e]), trivial⟩
abbrev cTopCodes : Con := { A := (.cons (.sl tL) (.cons tJob (.cons (.sl .int) .nil))), R := (.cons .bool .nil), pre := fun x => True, F := fun x => (true, ()) }
def cTopCodes_0 (Λ1 : (List Lin) → Int → Prop) (Λ2 : Int → Prop) (p : (List Lin)) (x : Job) (to_ : (List Int)) (y0 : Bool) : Prop :=
  ([(1, 0, 3, 0, ()), (3, 0, 0, 0, ())] = ([(1, 0, 3, 0, ()), (3, 0, 0, 0, ())] : List Lin) ∧ [(0 : Int), (0 : Int), (0 : Int), (0 : Int)] = [0, 0, 0, 0] ∧ [(0 : Int)] = [0] ∧ [(5 : Int)] = [5]) ∧ (if (0 != (0 : Int)) = true then (true = true ∧ (false = y0 ∧ True)) else (([10, 0, 0, 0]).length ≤ 1000000 ∧ (True ∧ (if (bif false then true else (!(decide (([10, 0, 0, 0]) = [(10 : Int), (0 : Int), (0 : Int), (0 : Int)])))) = true then (false = y0 ∧ True) else (True ∧ (if (decide (100 < p.length)) = true then (true = true ∧ (true = true ∧ (true = y0 ∧ True))) else (True ∧ (if (bif false then true else (decide ((List.length x.1 : Int) > (100 : Int)))) = true then (true = true ∧ (true = y0 ∧ True)) else (True ∧ (if (bif false then true else (decide ((List.length to_ : Int) > (100 : Int)))) = true then (true = y0 ∧ True) else (True ∧ (if ((errSl p x.1 x.2.1) != (0 : Int)) = true then (true = y0 ∧ True) else (True ∧ (True ∧ (if ((err1 p x.1) != (0 : Int)) = true then (true = true ∧ (true = true ∧ (true = true ∧ (true = true ∧ (false = y0 ∧ True))))) else (True ∧ (if (bif false then true else ((err1 p x.1) != (0 : Int))) = true then (true = true ∧ (true = true ∧ (true = true ∧ (false = y0 ∧ True)))) else (True ∧ (if (bif false then true else (decide (x.2.1 < (0 : Int)))) = true then (true = true ∧ (true = true ∧ (false = y0 ∧ True))) else (True ∧ (if (bif false then true else (decide (x.2.1 ≥ (List.length ((if err1 p x.1 = 0 then runS p x.1 else [])) : Int)))) = true then (true = true ∧ (false = y0 ∧ True)) else (True ∧ (if (bif false then true else (decide ((List.length p : Int) > (8 : Int)))) = true then (false = y0 ∧ True) else Λ1 p (0 : Int))))))))))))))))))))))))
def cTopCodes_1 (Λ1 : (List Lin) → Int → Prop) (Λ2 : Int → Prop) (p : (List Lin)) (x : Job) (to_ : (List Int)) (y0 : Bool)  (less_1 : (List Lin)) (i_1 : Int) : Prop :=
  if (decide (i_1 < (List.length p : Int))) = true then (idx i_1 (List.length p : Int) ∧ (True ∧ (if ((argErr (validLine (List.getD p (Int.toNat i_1) tL.dflt))) != (0 : Int)) = true then (true = true ∧ (false = y0 ∧ True)) else (True ∧ (if (decide (i_1 ∈ ((if errSl p x.1 x.2.1 = 0 then sliceL p x.1 x.2.1 else [])))) = true then (True ∧ (True ∧ (True ∧ (if (bif false then true else (bif true then (!(decide (i_1 ∈ ((if err1 p x.1 = 0 then doneS p x.1 else []))))) else false)) = true then (false = y0 ∧ True) else (if (!((validLine (List.getD p (Int.toNat i_1) tL.dflt) && writes (List.getD p (Int.toNat i_1) tL.dflt)))) = true then (true = true ∧ (inI (i_1 + (1 : Int)) ∧ Λ1 less_1 (i_1 + (1 : Int)))) else (True ∧ (True ∧ (if (bif false then true else (decide (i_1 ∈ ((if errSl p x.1 x.2.1 = 0 then sliceL p x.1 x.2.1 else []))))) = true then (inI (i_1 + (1 : Int)) ∧ Λ1 less_1 (i_1 + (1 : Int))) else (True ∧ (if ((putE less_1 i_1 (0, 0, 0, 0, ())) != (0 : Int)) = true then (false = y0 ∧ True) else (inI (i_1 + (1 : Int)) ∧ Λ1 ((if putE less_1 i_1 (0, 0, 0, 0, ()) = 0 then less_1.set (i_1).toNat (0, 0, 0, 0, ()) else [])) (i_1 + (1 : Int))))))))))))) else (false = false ∧ (True ∧ (if (bif false then true else false) = true then (false = y0 ∧ True) else (if (!((validLine (List.getD p (Int.toNat i_1) tL.dflt) && writes (List.getD p (Int.toNat i_1) tL.dflt)))) = true then (true = true ∧ (inI (i_1 + (1 : Int)) ∧ Λ1 less_1 (i_1 + (1 : Int)))) else (True ∧ (True ∧ (if (bif false then true else (decide (i_1 ∈ ((if errSl p x.1 x.2.1 = 0 then sliceL p x.1 x.2.1 else []))))) = true then (inI (i_1 + (1 : Int)) ∧ Λ1 less_1 (i_1 + (1 : Int))) else (True ∧ (if ((putE less_1 i_1 (0, 0, 0, 0, ())) != (0 : Int)) = true then (false = y0 ∧ True) else (inI (i_1 + (1 : Int)) ∧ Λ1 ((if putE less_1 i_1 (0, 0, 0, 0, ()) = 0 then less_1.set (i_1).toNat (0, 0, 0, 0, ()) else [])) (i_1 + (1 : Int))))))))))))))))) else (True ∧ (True ∧ (if ((err1 less_1 x.1) != (0 : Int)) = true then (true = true ∧ (true = true ∧ (true = true ∧ (true = true ∧ (false = y0 ∧ True))))) else (True ∧ (if (bif false then true else ((errSl less_1 x.1 x.2.1) != (0 : Int))) = true then (true = true ∧ (true = true ∧ (true = true ∧ (false = y0 ∧ True)))) else (True ∧ (if (bif false then true else (decide (x.2.1 ≥ (List.length ((if err1 less_1 x.1 = 0 then runS less_1 x.1 else [])) : Int)))) = true then (true = true ∧ (true = true ∧ (false = y0 ∧ True))) else (idx x.2.1 (List.length ((if err1 less_1 x.1 = 0 then runS less_1 x.1 else [])) : Int) ∧ (idx x.2.1 (List.length ((if err1 p x.1 = 0 then runS p x.1 else [])) : Int) ∧ (True ∧ (if (bif false then true else ((List.getD ((if err1 less_1 x.1 = 0 then runS less_1 x.1 else [])) (Int.toNat x.2.1) 0) != (List.getD ((if err1 p x.1 = 0 then runS p x.1 else [])) (Int.toNat x.2.1) 0))) = true then (true = true ∧ (false = y0 ∧ True)) else (((if errSl less_1 x.1 x.2.1 = 0 then sliceL less_1 x.1 x.2.1 else [])).length ≤ 1000000 ∧ (True ∧ (if (bif false then true else (!(decide (((if errSl less_1 x.1 x.2.1 = 0 then sliceL less_1 x.1 x.2.1 else [])) = ((if errSl p x.1 x.2.1 = 0 then sliceL p x.1 x.2.1 else [])))))) = true then (false = y0 ∧ True) else Λ2 (0 : Int)))))))))))))))
def cTopCodes_2 (Λ1 : (List Lin) → Int → Prop) (Λ2 : Int → Prop) (p : (List Lin)) (x : Job) (to_ : (List Int)) (y0 : Bool)  (i_2 : Int) : Prop :=
  inI (i_2 + (1 : Int)) ∧ (if (decide ((i_2 + (1 : Int)) < (List.length p : Int))) = true then (True ∧ (if ((exE p i_2) != (0 : Int)) = true then (inI (i_2 + (1 : Int)) ∧ Λ2 (i_2 + (1 : Int))) else (True ∧ (True ∧ (if ((err1 ((if exE p i_2 = 0 then exch p (i_2).toNat else [])) x.1) != (0 : Int)) = true then (true = true ∧ (true = true ∧ (true = true ∧ (false = y0 ∧ True)))) else (((if err1 ((if exE p i_2 = 0 then exch p (i_2).toNat else [])) x.1 = 0 then runS ((if exE p i_2 = 0 then exch p (i_2).toNat else [])) x.1 else [])).length ≤ 1000000 ∧ (True ∧ (if (bif false then true else (!(decide (((if err1 ((if exE p i_2 = 0 then exch p (i_2).toNat else [])) x.1 = 0 then runS ((if exE p i_2 = 0 then exch p (i_2).toNat else [])) x.1 else [])) = ((if err1 p x.1 = 0 then runS p x.1 else [])))))) = true then (true = true ∧ (true = true ∧ (false = y0 ∧ True))) else (True ∧ (if (bif false then true else ((exE ((if exE p i_2 = 0 then exch p (i_2).toNat else [])) i_2) != (0 : Int))) = true then (true = true ∧ (false = y0 ∧ True)) else (True ∧ (True ∧ (if (bif false then true else (!(decide (((if exE ((if exE p i_2 = 0 then exch p (i_2).toNat else [])) i_2 = 0 then exch ((if exE p i_2 = 0 then exch p (i_2).toNat else [])) (i_2).toNat else [])) = p)))) = true then (false = y0 ∧ True) else (inI (i_2 + (1 : Int)) ∧ Λ2 (i_2 + (1 : Int)))))))))))))))) else (True ∧ (if ((renE p to_) != (0 : Int)) = true then (true = y0 ∧ True) else (True ∧ (True ∧ (True ∧ (if ((movE x.1 to_) == (0 : Int)) = true then (True ∧ (if (bif true then ((err1 ((if renE p to_ = 0 then renP to_ p else [])) ((if movE x.1 to_ = 0 then movS x.1 to_ else []))) == (0 : Int)) else false) = true then (True ∧ (if (bif true then ((movE ((if err1 p x.1 = 0 then runS p x.1 else [])) to_) == (0 : Int)) else false) = true then (((if err1 ((if renE p to_ = 0 then renP to_ p else [])) ((if movE x.1 to_ = 0 then movS x.1 to_ else [])) = 0 then runS ((if renE p to_ = 0 then renP to_ p else [])) ((if movE x.1 to_ = 0 then movS x.1 to_ else [])) else [])).length ≤ 1000000 ∧ (True ∧ ((bif true then (decide (((if err1 ((if renE p to_ = 0 then renP to_ p else [])) ((if movE x.1 to_ = 0 then movS x.1 to_ else [])) = 0 then runS ((if renE p to_ = 0 then renP to_ p else [])) ((if movE x.1 to_ = 0 then movS x.1 to_ else [])) else [])) = ((if movE ((if err1 p x.1 = 0 then runS p x.1 else [])) to_ = 0 then movS ((if err1 p x.1 = 0 then runS p x.1 else [])) to_ else [])))) else false) = y0 ∧ True))) else (false = false ∧ (false = y0 ∧ True)))) else (false = false ∧ (false = false ∧ (false = y0 ∧ True))))) else (false = false ∧ (false = false ∧ (false = false ∧ (false = y0 ∧ True)))))))))))
theorem cTopCodes_law (h : ∀ (p : (List Lin)) (x : Job) (to_ : (List Int)), cTopCodes.A.wf (p, x, to_, ()) → ∀ (Λ1 : (List Lin) → Int → Prop) (Λ2 : Int → Prop), (∀ (less_1 : (List Lin)) (i_1 : Int), cTopCodes_1 Λ1 Λ2 p x to_ true less_1 i_1 → Λ1 less_1 i_1) → (∀ (i_2 : Int), cTopCodes_2 Λ1 Λ2 p x to_ true i_2 → Λ2 i_2) → cTopCodes_0 Λ1 Λ2 p x to_ true) : ConOK Go.Proofs.Try.prog 3 cTopCodes := by
  refine lawL (Γ := [(9, cDone), (13, cExch), (4, cForce), (11, cHasR1), (6, cLongL), (16, cMove), (12, cPut), (15, cRename), (8, cRun), (5, cSameIntsR), (14, cSameR1), (7, cSlice), (10, cWritesP)]) (Θ := Th) (n := 293) [([1, 1, 1, 1, 1, 1, 1, 1, 1, 0, 1, 0], ⟨[(0, false), (2, false), (4, true), (9, true), (11, true), (12, true), (14, false), (15, true)], [(4, false), (70, true), (79, true)]⟩), ([1, 1, 1, 1, 1, 1, 1, 1, 1, 1, 1, 1, 1, 0, 1, 0], ⟨[(0, false), (2, false), (4, true), (11, true), (21, true)], [(4, false), (79, true)]⟩)] ⟨cDone_ok, cExch_ok, cForce_ok, cHasR1_ok, cLongL_ok, cMove_ok, cPut_ok, cRename_ok, cRun_ok, cSameIntsR_ok, cSameR1_ok, cSlice_ok, cWritesP_ok, trivial⟩ (by kernel_rfl) th_ok mix_ok Go.Proofs.Try.func3 (by kernel_rfl) ?_
  intro x hw hp Λ hC
  have h0 := h x.1 x.2.1 x.2.2.1 hw (fun less_1 i_1 => Λ [1, 1, 1, 1, 1, 1, 1, 1, 1, 0, 1, 0] ([(0, .d false (.sl tL) x.1), (2, .d false (.sl .int) x.2.2.1), (4, .ptr 4 0 []), (9, .own 70 0), (11, .own 79 0), (12, .d true (.sl .int) ((if err1 x.1 x.2.1.1 = 0 then doneS x.1 x.2.1.1 else []))), (14, .d false (.sl tL) less_1), (15, .d true .int i_1)], [(4, .box false tJob x.2.1), (70, .sl true .int ((if errSl x.1 x.2.1.1 x.2.1.2.1 = 0 then sliceL x.1 x.2.1.1 x.2.1.2.1 else []))), (79, .sl true .int ((if err1 x.1 x.2.1.1 = 0 then runS x.1 x.2.1.1 else [])))])) (fun i_2 => Λ [1, 1, 1, 1, 1, 1, 1, 1, 1, 1, 1, 1, 1, 0, 1, 0] ([(0, .d false (.sl tL) x.1), (2, .d false (.sl .int) x.2.2.1), (4, .ptr 4 0 []), (11, .own 79 0), (21, .d true .int i_2)], [(4, .box false tJob x.2.1), (79, .sl true .int ((if err1 x.1 x.2.1.1 = 0 then runS x.1 x.2.1.1 else [])))])) (fun less_1 i_1 hb => hC [1, 1, 1, 1, 1, 1, 1, 1, 1, 0, 1, 0] ([(0, .d false (.sl tL) x.1), (2, .d false (.sl .int) x.2.2.1), (4, .ptr 4 0 []), (9, .own 70 0), (11, .own 79 0), (12, .d true (.sl .int) ((if err1 x.1 x.2.1.1 = 0 then doneS x.1 x.2.1.1 else []))), (14, .d false (.sl tL) less_1), (15, .d true .int i_1)], [(4, .box false tJob x.2.1), (70, .sl true .int ((if errSl x.1 x.2.1.1 x.2.1.2.1 = 0 then sliceL x.1 x.2.1.1 x.2.1.2.1 else []))), (79, .sl true .int ((if err1 x.1 x.2.1.1 = 0 then runS x.1 x.2.1.1 else [])))]) (Eq.mpr (by kernel_rfl) hb)) (fun i_2 hb => hC [1, 1, 1, 1, 1, 1, 1, 1, 1, 1, 1, 1, 1, 0, 1, 0] ([(0, .d false (.sl tL) x.1), (2, .d false (.sl .int) x.2.2.1), (4, .ptr 4 0 []), (11, .own 79 0), (21, .d true .int i_2)], [(4, .box false tJob x.2.1), (79, .sl true .int ((if err1 x.1 x.2.1.1 = 0 then runS x.1 x.2.1.1 else [])))]) (Eq.mpr (by kernel_rfl) hb))
  exact Eq.mpr (by kernel_rfl) h0
theorem cTopCodes_ok : ConOK Go.Proofs.Try.prog 3 cTopCodes := by
  refine cTopCodes_law ?_
  intro p x to_ hw Λ1 Λ2 h1 h2
  unfold cTopCodes_0
  obtain ⟨s, r, ⟨⟩⟩ := x
  dsimp only
  refine ⟨⟨rfl, rfl, rfl, rfl⟩, ?_⟩
  rw [if_neg (by decide)]
  refine ⟨by decide, trivial, ?_⟩
  rw [if_neg (by decide)]
  refine ⟨trivial, ?_⟩
  by_cases hlong : 100 < p.length
  · rw [if_pos (by simpa using hlong)]; exact ⟨rfl, rfl, rfl, trivial⟩
  rw [if_neg (by simpa using hlong)]
  refine ⟨trivial, ?_⟩
  by_cases hx1 : (s.length : Int) > 100
  · rw [if_pos (by simpa using hx1)]; exact ⟨rfl, rfl, trivial⟩
  rw [if_neg (by simpa using hx1)]
  refine ⟨trivial, ?_⟩
  by_cases ht : (to_.length : Int) > 100
  · rw [if_pos (by simpa using ht)]; exact ⟨rfl, trivial⟩
  rw [if_neg (by simpa using ht)]
  refine ⟨trivial, ?_⟩
  by_cases hS' : errSl p s r ≠ 0
  · rw [if_pos (by simpa using hS')]; exact ⟨rfl, trivial⟩
  have hS : errSl p s r = 0 := by omega
  obtain ⟨hE, hr⟩ : err1 p s = 0 ∧ isReg r = true := by
    unfold errSl at hS
    split at hS
    · rename_i g; exact ⟨g, argErr_zero.1 hS⟩
    · rename_i g; exact absurd hS g
  obtain ⟨hv, hs⟩ := err1_ok hE
  obtain ⟨h8, hall⟩ := validP_ok hv
  have hrn := within_iff.1 hr
  have hend := validS_len (runS_ok (p := p) hs)
  have hcut := sliceL_len p s r
  -- the exchanged and the renamed
  have L2 : ∀ i, i ≤ p.length - 1 → Λ2 (i : Int) := by
    refine upto ?_ ?_
    · apply h2; unfold cTopCodes_2
      refine ⟨by unfold inI; omega, ?_⟩
      rw [if_neg (by rw [decide_eq_true_eq]; omega)]
      refine ⟨trivial, ?_⟩
      dsimp only
      by_cases hR' : renE p to_ ≠ 0
      · rw [if_pos (by simpa using hR')]; exact ⟨rfl, trivial⟩
      have hR : renE p to_ = 0 := by omega
      have ho : isOrdB to_ = true := by
        unfold renE at hR
        rw [if_neg (by simp [hv])] at hR
        split at hR
        · assumption
        · cases hR
      have hM : ∀ t, validS t = true → movE t to_ = 0 := fun t h => by unfold movE; rw [h, ho]; rfl
      have hpm := perm4 ho
      have hq : err1 (renP to_ p) (movS s to_) = 0 := by unfold err1; rw [if_pos (renP_valid hpm hv), ren_valid hpm hs]; rfl
      have hM1 := hM s hs
      have hM2 := hM _ (runS_ok (p := p) hs)
      have he := ren_run ho hall hs
      have hlen : (movS (runS p s) to_).length ≤ 1000000 := by unfold movS; rw [movK_len, hend]; omega
      rw [if_neg (by simp [hR])]
      refine ⟨trivial, trivial, trivial, ?_⟩
      rw [if_pos hR, if_pos hM1, if_pos hE, if_pos hq, if_pos hM2, he, hM1, hM2, hq]
      rw [if_pos (by decide)]
      refine ⟨trivial, ?_⟩
      rw [if_pos (by decide)]
      refine ⟨trivial, ?_⟩
      rw [if_pos (by decide)]
      exact ⟨hlen, trivial, by simp, trivial⟩
    · intro i hi ih
      have hin : inI ((i : Int) + 1) := by unfold inI; omega
      apply h2; unfold cTopCodes_2
      refine ⟨hin, ?_⟩
      rw [if_pos (by rw [decide_eq_true_eq]; omega)]
      refine ⟨trivial, ?_⟩
      dsimp only
      by_cases hX' : exE p i ≠ 0
      · rw [if_pos (by simpa using hX')]
        exact ⟨hin, ih⟩
      have hX : exE p i = 0 := by omega
      obtain ⟨_, _, hi2, hn, hd⟩ := exE_ok hX
      rw [Int.toNat_natCast] at hn hd
      have hi3 : i + 1 < p.length := by omega
      have hqv := exch_valid hi3 hv
      have hqe : err1 (exch p i) s = 0 := by unfold err1; rw [if_pos hqv, hs]; rfl
      have hrun := exch_run hall hi3 hn hd hs
      have hbk := exch_back hv hi3 hn hd
      rw [if_neg (by simp [hX]), if_pos hX, Int.toNat_natCast]
      refine ⟨trivial, trivial, ?_⟩
      rw [if_pos hqe, if_pos hE, hrun, if_pos hbk, exch_exch hi3, hqe, hbk]
      rw [if_neg (by decide)]
      refine ⟨by omega, trivial, ?_⟩
      rw [if_neg (by simp)]
      refine ⟨trivial, ?_⟩
      rw [if_neg (by decide)]
      refine ⟨trivial, trivial, ?_⟩
      rw [if_neg (by simp)]
      exact ⟨hin, ih⟩
  -- the lines left out
  have L1 : ∀ i, i ≤ p.length → Λ1 (lessK p (sliceL p s r) i) (i : Int) := by
    refine upto ?_ ?_
    · have hqv := lessK_validP (S := sliceL p s r) (k := p.length) hv
      have hqe : err1 (lessK p (sliceL p s r) p.length) s = 0 := by unfold err1; rw [if_pos hqv, hs]; rfl
      have hqs : errSl (lessK p (sliceL p s r) p.length) s r = 0 := by unfold errSl; rw [if_pos hqe, hr]; rfl
      obtain ⟨g1, g2⟩ := less_all (q := lessK p (sliceL p s r) p.length) hall hs hrn (lessK_len ..) (fun i hi => by
        rw [lessK_get p _ _ hi]
        simp only [hi, true_and])
      have hq4 := validS_len (runS_ok (p := lessK p (sliceL p s r) p.length) hs)
      generalize lessK p (sliceL p s r) p.length = q at *
      apply h1; unfold cTopCodes_1
      rw [if_neg (by simp)]
      dsimp only
      refine ⟨trivial, trivial, ?_⟩
      rw [if_pos hqe, if_pos hqs, if_pos hE, if_pos hS, hqe, hqs, hq4, hend, g2]
      unfold Rg at g1
      rw [g1]
      rw [if_neg (by decide)]
      refine ⟨trivial, ?_⟩
      rw [if_neg (by decide)]
      refine ⟨trivial, ?_⟩
      rw [if_neg (by show ¬ decide (r ≥ ((4 : Nat) : Int)) = true; rw [decide_eq_true_eq]; omega)]
      have ir : idx r ((4 : Nat) : Int) := ⟨hrn.1, by omega⟩
      refine ⟨ir, ir, trivial, ?_⟩
      rw [if_neg (by simp)]
      refine ⟨by omega, trivial, ?_⟩
      rw [if_neg (by simp)]
      exact L2 0 (Nat.zero_le _)
    · intro i hi ih
      have hin : inI ((i : Int) + 1) := inI_succ hi (by omega)
      have hl := validLine_at hall hi
      have hqv := lessK_validP (S := sliceL p s r) (k := i) hv
      have hpe : putE (lessK p (sliceL p s r) i) i (0, 0, 0, 0, ()) = 0 := by
        unfold putE
        rw [if_neg (by simp [hqv]), if_neg (by decide), if_pos (within_iff.2 ⟨by omega, by rw [lessK_len]; omega⟩)]
      apply h1; unfold cTopCodes_1
      rw [if_pos (by simpa using hi), Int.toNat_natCast]
      dsimp only
      rw [if_pos hS, if_pos hE, hl]
      refine ⟨idx_nat hi, trivial, ?_⟩
      rw [if_neg (by decide)]
      refine ⟨trivial, ?_⟩
      by_cases hm : (i : Int) ∈ sliceL p s r
      · have hd := slice_done hm
        have e := lessK_same (S := sliceL p s r) hi (.inr hm)
        rw [← e] at ih
        rw [if_pos (by simpa using hm)]
        refine ⟨trivial, trivial, trivial, ?_⟩
        rw [if_neg (by simp [hd])]
        cases hw : writes (List.getD p i tL.dflt)
        · rw [if_pos (by rfl)]
          exact ⟨rfl, hin, ih⟩
        · rw [if_neg (by simp)]
          refine ⟨trivial, trivial, ?_⟩
          rw [if_pos (by simp [hm])]
          exact ⟨hin, ih⟩
      · rw [if_neg (by simpa using hm)]
        refine ⟨rfl, trivial, ?_⟩
        rw [if_neg (by simp)]
        cases hw : writes (List.getD p i tL.dflt)
        · have e := lessK_same (S := sliceL p s r) hi (.inl hw)
          rw [← e] at ih
          rw [if_pos (by rfl)]
          exact ⟨rfl, hin, ih⟩
        · rw [if_neg (by simp)]
          refine ⟨trivial, trivial, ?_⟩
          rw [if_neg (by simp [hm])]
          refine ⟨trivial, ?_⟩
          rw [hpe, if_neg (by decide)]
          refine ⟨hin, ?_⟩
          rw [if_pos rfl, lessK_out hi hw hm]
          exact ih
  rw [if_neg (by simp [hS])]
  refine ⟨trivial, trivial, ?_⟩
  rw [if_pos hE, hE, hend]
  rw [if_neg (by decide)]
  refine ⟨trivial, ?_⟩
  rw [if_neg (by decide)]
  refine ⟨trivial, ?_⟩
  rw [if_neg (by show ¬ decide (r < 0) = true; rw [decide_eq_true_eq]; omega)]
  refine ⟨trivial, ?_⟩
  rw [if_neg (by show ¬ decide (r ≥ ((4 : Nat) : Int)) = true; rw [decide_eq_true_eq]; omega)]
  refine ⟨trivial, ?_⟩
  rw [if_neg (by show ¬ decide ((p.length : Int) > 8) = true; rw [decide_eq_true_eq]; omega)]
  have := L1 0 (Nat.zero_le _)
  rw [lessK_zero] at this
  exact this
end Go.Tk
