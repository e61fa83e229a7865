/- What holds across contracts and spans: the program's own answers (layers 1, 2, 6). -/
import Derived.Test.YtookhknbjofmkaaCt1
import Derived.Test.YtookhknbjofmkaaC6t
set_option linter.unusedSimpArgs false
set_option linter.unusedVariables false
set_option linter.unnecessarySimpa false
namespace Go.Tk
open Go Go.RowKit
def reachV (p : List Lin) (b : List Rng) : List Int := if err6 p b = 0 then linesB p b true else []
def provV (p : List Lin) (c : Ctr) : Bool := cErr p c == 0 && proveB p c (boxCt c)
def ofV (c : Ctr) : List Rng := if validC c = 0 then boxOf c.1 c.2.1 else []
def aftV (p : List Lin) (b : List Rng) : List Rng := if err6 p b = 0 then afterB p b else []
def pntV (s : List Int) : List Rng := if validS s then boxOf s s else []
def pntE (s : List Int) : Int := argErr (validS s)
def runV (p : List Lin) (s : List Int) : List Int := if err1 p s = 0 then runS p s else []
def hasV (b : List Rng) (s : List Int) : Bool := hasOK b s && hasB b s
def hasE (b : List Rng) (s : List Int) : Int := argErr (hasOK b s)
def witV (a b : List Rng) : Bool := twoOK a b && decide (join hull2 a b = b)
def twoE (a b : List Rng) : Int := argErr (twoOK a b)
def sizV (b : List Rng) : Int := if validB b then sizeB b else 0
def sizE (b : List Rng) : Int := argErr (validB b)
def eachV (p : List Lin) (c : Ctr) (r : Int) : Bool := eachE p c r == 0 && eachB p c r
def hulV (a b : List Rng) : List Rng := if twoOK a b then join hull2 a b else []
abbrev cReached_ : Con := { A := (.cons (.sl tL) (.cons (.sl tR) .nil)), R := (.cons (.sl .int) (.cons .int .nil)), pre := fun x => True, F := fun x => (reachV x.1 x.2.1, err6 x.1 x.2.1, ()) }
theorem cReached__ok : ConOK Go.Proofs.Try.prog 19 cReached_ := cReached_ok
abbrev cProves_ : Con := { A := (.cons (.sl tL) (.cons tCt .nil)), R := (.cons .bool (.cons .int .nil)), pre := fun x => True, F := fun x => (provV x.1 x.2.1, cErr x.1 x.2.1, ()) }
theorem cProves__ok : ConOK Go.Proofs.Try.prog 20 cProves_ := cProves_ok
abbrev cOf_ : Con := { A := (.cons tCt .nil), R := (.cons (.sl tR) (.cons .int .nil)), pre := fun x => True, F := fun x => (ofV x.1, validC x.1, ()) }
theorem cOf__ok : ConOK Go.Proofs.Try.prog 21 cOf_ := cOf6_ok
abbrev cAfter_ : Con := { A := (.cons (.sl tL) (.cons (.sl tR) .nil)), R := (.cons (.sl tR) (.cons .int .nil)), pre := fun x => True, F := fun x => (aftV x.1 x.2.1, err6 x.1 x.2.1, ()) }
theorem cAfter__ok : ConOK Go.Proofs.Try.prog 24 cAfter_ := cAfter_ok
abbrev cPoint_ : Con := { A := (.cons (.sl .int) .nil), R := (.cons (.sl tR) (.cons .int .nil)), pre := fun x => True, F := fun x => (pntV x.1, pntE x.1, ()) }
theorem cPoint__ok : ConOK Go.Proofs.Try.prog 25 cPoint_ := cPoint_ok
abbrev cRun_ : Con := { A := (.cons (.sl tL) (.cons (.sl .int) .nil)), R := (.cons (.osl .int) (.cons .int .nil)), pre := fun x => True, F := fun x => (runV x.1 x.2.1, err1 x.1 x.2.1, ()) }
theorem cRun__ok : ConOK Go.Proofs.Try.prog 26 cRun_ := cRun_ok
abbrev cHas_ : Con := { A := (.cons (.sl tR) (.cons (.sl .int) .nil)), R := (.cons .bool (.cons .int .nil)), pre := fun x => True, F := fun x => (hasV x.1 x.2.1, hasE x.1 x.2.1, ()) }
theorem cHas__ok : ConOK Go.Proofs.Try.prog 27 cHas_ := cHas_ok
abbrev cWithinB_ : Con := { A := (.cons (.sl tR) (.cons (.sl tR) .nil)), R := (.cons .bool (.cons .int .nil)), pre := fun x => True, F := fun x => (witV x.1 x.2.1, twoE x.1 x.2.1, ()) }
theorem cWithinB__ok : ConOK Go.Proofs.Try.prog 28 cWithinB_ := cWithinB_ok
abbrev cSize_ : Con := { A := (.cons (.sl tR) .nil), R := (.cons .int (.cons .int .nil)), pre := fun x => True, F := fun x => (sizV x.1, sizE x.1, ()) }
theorem cSize__ok : ConOK Go.Proofs.Try.prog 29 cSize_ := cSize_ok
abbrev cEach_ : Con := { A := (.cons (.sl tL) (.cons tCt (.cons .int .nil))), R := (.cons .bool (.cons .int .nil)), pre := fun x => True, F := fun x => (eachV x.1 x.2.1 x.2.2.1, eachE x.1 x.2.1 x.2.2.1, ()) }
theorem cEach__ok : ConOK Go.Proofs.Try.prog 30 cEach_ := cEach_ok
abbrev cHull_ : Con := { A := (.cons (.sl tR) (.cons (.sl tR) .nil)), R := (.cons (.osl tR) (.cons .int .nil)), pre := fun x => True, F := fun x => (hulV x.1 x.2.1, twoE x.1 x.2.1, ()) }
theorem cHull__ok : ConOK Go.Proofs.Try.prog 32 cHull_ := cHull_ok
theorem halfLow_le {b : List Rng} {i : Int} (h : halfErr b i = 0) : leBox (halfLow b i) b := by
  obtain ⟨h1, h2, h3, h4⟩ := half_ok h
  have l := validB_len h1
  have v := validB_get h1 h2 h3
  unfold halfLow
  rw [if_pos h]
  intro j
  rw [getD_set tR.dflt (by omega) j]
  by_cases e : i.toNat = j
  · subst e
    rw [if_pos rfl]
    unfold midR
    refine ⟨Int.le_refl _, ?_⟩
    show ((Rd b i).1 + (Rd b i).2.1) / 2 ≤ (Rd b i).2.1
    omega
  · rw [if_neg e]; exact ⟨Int.le_refl _, Int.le_refl _⟩
theorem halfHigh_le {b : List Rng} {i : Int} (h : halfErr b i = 0) : leBox (halfHigh b i) b := by
  obtain ⟨h1, h2, h3, h4⟩ := half_ok h
  have l := validB_len h1
  have v := validB_get h1 h2 h3
  unfold halfHigh
  rw [if_pos h]
  intro j
  rw [getD_set tR.dflt (by omega) j]
  by_cases e : i.toNat = j
  · subst e
    rw [if_pos rfl]
    unfold midR
    refine ⟨?_, Int.le_refl _⟩
    show (Rd b i).1 ≤ ((Rd b i).1 + (Rd b i).2.1) / 2 + 1
    omega
  · rw [if_neg e]; exact ⟨Int.le_refl _, Int.le_refl _⟩
theorem err6_of {p : List Lin} {b : List Rng} (h1 : validP p = 0) (h2 : validB b = true) : err6 p b = 0 := by
  unfold err6; rw [if_pos h1, h2]; rfl
theorem aftV_of {p : List Lin} {b : List Rng} (h1 : validP p = 0) (h2 : validB b = true) : aftV p b = afterB p b := by
  unfold aftV; rw [if_pos (err6_of h1 h2)]
theorem wit_of {a b : List Rng} (h1 : validB a = true) (h2 : validB b = true) (h : leBox a b) : twoE a b = 0 ∧ witV a b = true := by
  have t := twoOK_iff.2 ⟨h1, h2⟩
  unfold twoE witV
  rw [t, decide_eq_true ((leBox_iff h1 h2).2 h)]
  exact ⟨rfl, rfl⟩
theorem point_size {s : List Int} (h : s.length = 4) : sizeB (boxOf s s) = 0 := by
  obtain ⟨a, b, c, d, rfl⟩ := list4 h
  unfold sizeB boxOf
  simp
theorem first_spans {p : List Lin} {c : Ctr} (h : firstB p c = true) : pntE (firstV p c) = 0 ∧ err1 p (firstV p c) = 0 ∧ err6 p (pntV (firstV p c)) = 0 ∧ hasE (aftV p (pntV (firstV p c))) (runV p (firstV p c)) = 0 ∧
    twoE (aftV p (pntV (firstV p c))) (aftV p (ofV c)) = 0 ∧ sizE (aftV p (pntV (firstV p c))) = 0 ∧ hasV (aftV p (pntV (firstV p c))) (runV p (firstV p c)) = true ∧ witV (aftV p (pntV (firstV p c))) (aftV p (ofV c)) = true ∧ sizV (aftV p (pntV (firstV p c))) = 0 := by
  obtain ⟨e, h1, _⟩ := first_mem h
  obtain ⟨g1, g2⟩ := cErr_ok e
  obtain ⟨hb, ho, hm⟩ := isCtr_box (validC_ok g2).1
  have hv := stateC_valid hb h1
  have hl := state_le hb h1
  have hall := (validP_ok g1).2
  have hB := boxOf_valid hb
  generalize firstV p c = s at h1 hv hl ⊢
  have hr := runS_ok (p := p) hv
  have hp := point_valid hv
  have e1 : err1 p s = 0 := by unfold err1; rw [if_pos g1, hv]; rfl
  have eP : pntV s = boxOf s s := by unfold pntV; rw [hv]; rfl
  have eO : ofV c = boxOf c.1 c.2.1 := if_pos g2
  have eR : runV p s = runS p s := if_pos e1
  have eA : aftV p (boxOf s s) = boxOf (runS p s) (runS p s) := by rw [aftV_of g1 hp, after_point hall hv]
  have eB : aftV p (boxOf c.1 c.2.1) = afterB p (boxOf c.1 c.2.1) := aftV_of g1 hB
  have hrp := point_valid hr
  have hAB := afterB_ok hall hB
  have lle : leBox (boxOf (runS p s) (runS p s)) (afterB p (boxOf c.1 c.2.1)) := by
    rw [← after_point hall hv, ← leBox_iff (afterB_ok hall hp) hAB]
    exact after_mono hall hp hB ((leBox_iff hp hB).2 hl)
  have hw := wit_of hrp hAB lle
  rw [eP, eO, eR, eA, eB]
  refine ⟨?_, e1, err6_of g1 hp, ?_, hw.1, ?_, ?_, hw.2, ?_⟩
  · unfold pntE; rw [hv]; rfl
  · unfold hasE; rw [hasOK_iff.2 ⟨hrp, hr⟩]; rfl
  · unfold sizE; rw [hrp]; rfl
  · unfold hasV; rw [hasOK_iff.2 ⟨hrp, hr⟩, (point_le hrp hr).2 (leBox_refl _)]; rfl
  · unfold sizV; rw [hrp]; exact point_size (validS_len hr)

abbrev cTopSpans : Con := { A := (.cons (.sl tL) (.cons tCt (.cons .int .nil))), R := (.cons .bool .nil), pre := fun x => True, F := fun x => (true, ()) }
def cTopSpans_0 (Λ1 : Prop) (p : (List Lin)) (c : Ctr) (register : Int) (y0 : Bool) : Prop :=
  True ∧ (if ((err6 [(7, 1, 0, 1, ()), (1, 2, 9, 0, ())] [(3, 4, ()), (1, 2, ()), (0, 0, ()), (0, 0, ())]) != (0 : Int)) = true then (true = true ∧ (false = y0 ∧ True)) else ((reachV [(7, 1, 0, 1, ()), (1, 2, 9, 0, ())] [(3, 4, ()), (1, 2, ()), (0, 0, ()), (0, 0, ())]).length ≤ 1000000 ∧ (True ∧ (if (bif false then true else (!(decide ((reachV [(7, 1, 0, 1, ()), (1, 2, 9, 0, ())] [(3, 4, ()), (1, 2, ()), (0, 0, ()), (0, 0, ())]) = [(0 : Int), (1 : Int)])))) = true then (false = y0 ∧ True) else (True ∧ (if (decide (100 < p.length)) = true then (true = true ∧ (true = y0 ∧ True)) else (True ∧ (True ∧ (if (bif false then true else (decide (100 < c.1.length ∨ 100 < c.2.1.length))) = true then (true = y0 ∧ True) else (True ∧ (if ((cErr p c) != (0 : Int)) = true then (true = y0 ∧ True) else (True ∧ (True ∧ (True ∧ (True ∧ (True ∧ (if ((cErr p c) != (0 : Int)) = true then (true = true ∧ (true = true ∧ (true = true ∧ (true = true ∧ (true = true ∧ (true = true ∧ (true = true ∧ (true = true ∧ (true = true ∧ (false = y0 ∧ True)))))))))) else (True ∧ (if (bif false then true else ((cErr p c) != (0 : Int))) = true then (true = true ∧ (true = true ∧ (true = true ∧ (true = true ∧ (true = true ∧ (true = true ∧ (true = true ∧ (true = true ∧ (false = y0 ∧ True))))))))) else (True ∧ (if (bif false then true else ((validC c) != (0 : Int))) = true then (true = true ∧ (true = true ∧ (true = true ∧ (true = true ∧ (true = true ∧ (true = true ∧ (true = true ∧ (false = y0 ∧ True)))))))) else (True ∧ (if (bif false then true else ((cErr p c) != (0 : Int))) = true then (true = true ∧ (true = true ∧ (true = true ∧ (true = true ∧ (true = true ∧ (true = true ∧ (false = y0 ∧ True))))))) else (True ∧ (if (bif false then true else ((cErr p c) != (0 : Int))) = true then (true = true ∧ (true = true ∧ (true = true ∧ (true = true ∧ (true = true ∧ (false = y0 ∧ True)))))) else (if (provV p c) = true then (True ∧ (True ∧ (if (bif false then true else (bif true then (!(keepB p c)) else false)) = true then (true = true ∧ (true = true ∧ (true = true ∧ (true = true ∧ (false = y0 ∧ True))))) else (if ((verdV p c) != (1 : Int)) = true then (True ∧ (True ∧ (if (bif false then true else (bif true then (provV p c) else false)) = true then (true = true ∧ (true = true ∧ (true = true ∧ (false = y0 ∧ True)))) else (if ((verdV p c) == (1 : Int)) = true then (True ∧ (True ∧ (if (bif false then true else (bif true then (!(provV p c)) else false)) = true then (true = true ∧ (true = true ∧ (false = y0 ∧ True))) else (True ∧ (if (bif false then true else (((verdV p c) == (-1 : Int)) == (keepB p c))) = true then (true = true ∧ (false = y0 ∧ True)) else (True ∧ (if (bif false then true else (decide ((lossV p c) < (0 : Int)))) = true then (false = y0 ∧ True) else (True ∧ (if ((err6 p (ofV c)) != (0 : Int)) = true then (true = true ∧ (true = true ∧ (true = true ∧ (true = true ∧ (true = true ∧ (false = y0 ∧ True)))))) else (True ∧ (if (bif false then true else (decide (c.2.2.1 < (0 : Int)))) = true then (true = true ∧ (true = true ∧ (true = true ∧ (true = true ∧ (false = y0 ∧ True))))) else (True ∧ (if (bif false then true else (decide (c.2.2.1 ≥ (List.length (aftV p (ofV c)) : Int)))) = true then (true = true ∧ (true = true ∧ (true = true ∧ (false = y0 ∧ True)))) else (idx c.2.2.1 (List.length (aftV p (ofV c)) : Int) ∧ (True ∧ (if (bif false then true else (decide ((minE p c) < (List.getD (aftV p (ofV c)) (Int.toNat c.2.2.1) tR.dflt).1))) = true then (true = true ∧ (true = true ∧ (false = y0 ∧ True))) else (idx c.2.2.1 (List.length (aftV p (ofV c)) : Int) ∧ (True ∧ (if (bif false then true else (decide ((maxE p c) > (List.getD (aftV p (ofV c)) (Int.toNat c.2.2.1) tR.dflt).2.1))) = true then (true = true ∧ (false = y0 ∧ True)) else (idx c.2.2.1 (List.length (aftV p (ofV c)) : Int) ∧ (idx c.2.2.1 (List.length (aftV p (ofV c)) : Int) ∧ (inI ((List.getD (aftV p (ofV c)) (Int.toNat c.2.2.1) tR.dflt).2.1 - (List.getD (aftV p (ofV c)) (Int.toNat c.2.2.1) tR.dflt).1) ∧ (inI ((maxE p c) - (minE p c)) ∧ (inI (((List.getD (aftV p (ofV c)) (Int.toNat c.2.2.1) tR.dflt).2.1 - (List.getD (aftV p (ofV c)) (Int.toNat c.2.2.1) tR.dflt).1) - ((maxE p c) - (minE p c))) ∧ (True ∧ (if (bif false then true else ((lossV p c) != (((List.getD (aftV p (ofV c)) (Int.toNat c.2.2.1) tR.dflt).2.1 - (List.getD (aftV p (ofV c)) (Int.toNat c.2.2.1) tR.dflt).1) - ((maxE p c) - (minE p c))))) = true then (false = y0 ∧ True) else (True ∧ (if ((cErr p c) != (0 : Int)) = true then (false = y0 ∧ True) else (if (firstB p c) = true then (True ∧ (True ∧ (True ∧ (if ((pntE (firstV p c)) != (0 : Int)) = true then (true = true ∧ (true = true ∧ (false = y0 ∧ True))) else (True ∧ (if (bif false then true else ((err1 p (firstV p c)) != (0 : Int))) = true then (true = true ∧ (false = y0 ∧ True)) else (True ∧ (if (bif false then true else ((err6 p (pntV (firstV p c))) != (0 : Int))) = true then (false = y0 ∧ True) else (True ∧ (True ∧ (True ∧ (if ((hasE (aftV p (pntV (firstV p c))) (runV p (firstV p c))) != (0 : Int)) = true then (true = true ∧ (true = true ∧ (true = true ∧ (true = true ∧ (true = true ∧ (false = y0 ∧ True)))))) else (True ∧ (if (bif false then true else ((twoE (aftV p (pntV (firstV p c))) (aftV p (ofV c))) != (0 : Int))) = true then (true = true ∧ (true = true ∧ (true = true ∧ (true = true ∧ (false = y0 ∧ True))))) else (True ∧ (if (bif false then true else ((sizE (aftV p (pntV (firstV p c)))) != (0 : Int))) = true then (true = true ∧ (true = true ∧ (true = true ∧ (false = y0 ∧ True)))) else (True ∧ (if (bif false then true else (!(hasV (aftV p (pntV (firstV p c))) (runV p (firstV p c))))) = true then (true = true ∧ (true = true ∧ (false = y0 ∧ True))) else (True ∧ (if (bif false then true else (!(witV (aftV p (pntV (firstV p c))) (aftV p (ofV c))))) = true then (true = true ∧ (false = y0 ∧ True)) else (True ∧ (if (bif false then true else ((sizV (aftV p (pntV (firstV p c)))) != (0 : Int))) = true then (false = y0 ∧ True) else Λ1 )))))))))))))))))))))) else Λ1 ))))))))))))))))))))))))))))) else (false = false ∧ (True ∧ (if (bif false then true else false) = true then (true = true ∧ (true = true ∧ (false = y0 ∧ True))) else (True ∧ (if (bif false then true else (((verdV p c) == (-1 : Int)) == (keepB p c))) = true then (true = true ∧ (false = y0 ∧ True)) else (True ∧ (if (bif false then true else (decide ((lossV p c) < (0 : Int)))) = true then (false = y0 ∧ True) else (True ∧ (if ((err6 p (ofV c)) != (0 : Int)) = true then (true = true ∧ (true = true ∧ (true = true ∧ (true = true ∧ (true = true ∧ (false = y0 ∧ True)))))) else (True ∧ (if (bif false then true else (decide (c.2.2.1 < (0 : Int)))) = true then (true = true ∧ (true = true ∧ (true = true ∧ (true = true ∧ (false = y0 ∧ True))))) else (True ∧ (if (bif false then true else (decide (c.2.2.1 ≥ (List.length (aftV p (ofV c)) : Int)))) = true then (true = true ∧ (true = true ∧ (true = true ∧ (false = y0 ∧ True)))) else (idx c.2.2.1 (List.length (aftV p (ofV c)) : Int) ∧ (True ∧ (if (bif false then true else (decide ((minE p c) < (List.getD (aftV p (ofV c)) (Int.toNat c.2.2.1) tR.dflt).1))) = true then (true = true ∧ (true = true ∧ (false = y0 ∧ True))) else (idx c.2.2.1 (List.length (aftV p (ofV c)) : Int) ∧ (True ∧ (if (bif false then true else (decide ((maxE p c) > (List.getD (aftV p (ofV c)) (Int.toNat c.2.2.1) tR.dflt).2.1))) = true then (true = true ∧ (false = y0 ∧ True)) else (idx c.2.2.1 (List.length (aftV p (ofV c)) : Int) ∧ (idx c.2.2.1 (List.length (aftV p (ofV c)) : Int) ∧ (inI ((List.getD (aftV p (ofV c)) (Int.toNat c.2.2.1) tR.dflt).2.1 - (List.getD (aftV p (ofV c)) (Int.toNat c.2.2.1) tR.dflt).1) ∧ (inI ((maxE p c) - (minE p c)) ∧ (inI (((List.getD (aftV p (ofV c)) (Int.toNat c.2.2.1) tR.dflt).2.1 - (List.getD (aftV p (ofV c)) (Int.toNat c.2.2.1) tR.dflt).1) - ((maxE p c) - (minE p c))) ∧ (True ∧ (if (bif false then true else ((lossV p c) != (((List.getD (aftV p (ofV c)) (Int.toNat c.2.2.1) tR.dflt).2.1 - (List.getD (aftV p (ofV c)) (Int.toNat c.2.2.1) tR.dflt).1) - ((maxE p c) - (minE p c))))) = true then (false = y0 ∧ True) else (True ∧ (if ((cErr p c) != (0 : Int)) = true then (false = y0 ∧ True) else (if (firstB p c) = true then (True ∧ (True ∧ (True ∧ (if ((pntE (firstV p c)) != (0 : Int)) = true then (true = true ∧ (true = true ∧ (false = y0 ∧ True))) else (True ∧ (if (bif false then true else ((err1 p (firstV p c)) != (0 : Int))) = true then (true = true ∧ (false = y0 ∧ True)) else (True ∧ (if (bif false then true else ((err6 p (pntV (firstV p c))) != (0 : Int))) = true then (false = y0 ∧ True) else (True ∧ (True ∧ (True ∧ (if ((hasE (aftV p (pntV (firstV p c))) (runV p (firstV p c))) != (0 : Int)) = true then (true = true ∧ (true = true ∧ (true = true ∧ (true = true ∧ (true = true ∧ (false = y0 ∧ True)))))) else (True ∧ (if (bif false then true else ((twoE (aftV p (pntV (firstV p c))) (aftV p (ofV c))) != (0 : Int))) = true then (true = true ∧ (true = true ∧ (true = true ∧ (true = true ∧ (false = y0 ∧ True))))) else (True ∧ (if (bif false then true else ((sizE (aftV p (pntV (firstV p c)))) != (0 : Int))) = true then (true = true ∧ (true = true ∧ (true = true ∧ (false = y0 ∧ True)))) else (True ∧ (if (bif false then true else (!(hasV (aftV p (pntV (firstV p c))) (runV p (firstV p c))))) = true then (true = true ∧ (true = true ∧ (false = y0 ∧ True))) else (True ∧ (if (bif false then true else (!(witV (aftV p (pntV (firstV p c))) (aftV p (ofV c))))) = true then (true = true ∧ (false = y0 ∧ True)) else (True ∧ (if (bif false then true else ((sizV (aftV p (pntV (firstV p c)))) != (0 : Int))) = true then (false = y0 ∧ True) else Λ1 )))))))))))))))))))))) else Λ1 ))))))))))))))))))))))))))))))))) else (false = false ∧ (True ∧ (if (bif false then true else false) = true then (true = true ∧ (true = true ∧ (true = true ∧ (false = y0 ∧ True)))) else (if ((verdV p c) == (1 : Int)) = true then (True ∧ (True ∧ (if (bif false then true else (bif true then (!(provV p c)) else false)) = true then (true = true ∧ (true = true ∧ (false = y0 ∧ True))) else (True ∧ (if (bif false then true else (((verdV p c) == (-1 : Int)) == (keepB p c))) = true then (true = true ∧ (false = y0 ∧ True)) else (True ∧ (if (bif false then true else (decide ((lossV p c) < (0 : Int)))) = true then (false = y0 ∧ True) else (True ∧ (if ((err6 p (ofV c)) != (0 : Int)) = true then (true = true ∧ (true = true ∧ (true = true ∧ (true = true ∧ (true = true ∧ (false = y0 ∧ True)))))) else (True ∧ (if (bif false then true else (decide (c.2.2.1 < (0 : Int)))) = true then (true = true ∧ (true = true ∧ (true = true ∧ (true = true ∧ (false = y0 ∧ True))))) else (True ∧ (if (bif false then true else (decide (c.2.2.1 ≥ (List.length (aftV p (ofV c)) : Int)))) = true then (true = true ∧ (true = true ∧ (true = true ∧ (false = y0 ∧ True)))) else (idx c.2.2.1 (List.length (aftV p (ofV c)) : Int) ∧ (True ∧ (if (bif false then true else (decide ((minE p c) < (List.getD (aftV p (ofV c)) (Int.toNat c.2.2.1) tR.dflt).1))) = true then (true = true ∧ (true = true ∧ (false = y0 ∧ True))) else (idx c.2.2.1 (List.length (aftV p (ofV c)) : Int) ∧ (True ∧ (if (bif false then true else (decide ((maxE p c) > (List.getD (aftV p (ofV c)) (Int.toNat c.2.2.1) tR.dflt).2.1))) = true then (true = true ∧ (false = y0 ∧ True)) else (idx c.2.2.1 (List.length (aftV p (ofV c)) : Int) ∧ (idx c.2.2.1 (List.length (aftV p (ofV c)) : Int) ∧ (inI ((List.getD (aftV p (ofV c)) (Int.toNat c.2.2.1) tR.dflt).2.1 - (List.getD (aftV p (ofV c)) (Int.toNat c.2.2.1) tR.dflt).1) ∧ (inI ((maxE p c) - (minE p c)) ∧ (inI (((List.getD (aftV p (ofV c)) (Int.toNat c.2.2.1) tR.dflt).2.1 - (List.getD (aftV p (ofV c)) (Int.toNat c.2.2.1) tR.dflt).1) - ((maxE p c) - (minE p c))) ∧ (True ∧ (if (bif false then true else ((lossV p c) != (((List.getD (aftV p (ofV c)) (Int.toNat c.2.2.1) tR.dflt).2.1 - (List.getD (aftV p (ofV c)) (Int.toNat c.2.2.1) tR.dflt).1) - ((maxE p c) - (minE p c))))) = true then (false = y0 ∧ True) else (True ∧ (if ((cErr p c) != (0 : Int)) = true then (false = y0 ∧ True) else (if (firstB p c) = true then (True ∧ (True ∧ (True ∧ (if ((pntE (firstV p c)) != (0 : Int)) = true then (true = true ∧ (true = true ∧ (false = y0 ∧ True))) else (True ∧ (if (bif false then true else ((err1 p (firstV p c)) != (0 : Int))) = true then (true = true ∧ (false = y0 ∧ True)) else (True ∧ (if (bif false then true else ((err6 p (pntV (firstV p c))) != (0 : Int))) = true then (false = y0 ∧ True) else (True ∧ (True ∧ (True ∧ (if ((hasE (aftV p (pntV (firstV p c))) (runV p (firstV p c))) != (0 : Int)) = true then (true = true ∧ (true = true ∧ (true = true ∧ (true = true ∧ (true = true ∧ (false = y0 ∧ True)))))) else (True ∧ (if (bif false then true else ((twoE (aftV p (pntV (firstV p c))) (aftV p (ofV c))) != (0 : Int))) = true then (true = true ∧ (true = true ∧ (true = true ∧ (true = true ∧ (false = y0 ∧ True))))) else (True ∧ (if (bif false then true else ((sizE (aftV p (pntV (firstV p c)))) != (0 : Int))) = true then (true = true ∧ (true = true ∧ (true = true ∧ (false = y0 ∧ True)))) else (True ∧ (if (bif false then true else (!(hasV (aftV p (pntV (firstV p c))) (runV p (firstV p c))))) = true then (true = true ∧ (true = true ∧ (false = y0 ∧ True))) else (True ∧ (if (bif false then true else (!(witV (aftV p (pntV (firstV p c))) (aftV p (ofV c))))) = true then (true = true ∧ (false = y0 ∧ True)) else (True ∧ (if (bif false then true else ((sizV (aftV p (pntV (firstV p c)))) != (0 : Int))) = true then (false = y0 ∧ True) else Λ1 )))))))))))))))))))))) else Λ1 ))))))))))))))))))))))))))))) else (false = false ∧ (True ∧ (if (bif false then true else false) = true then (true = true ∧ (true = true ∧ (false = y0 ∧ True))) else (True ∧ (if (bif false then true else (((verdV p c) == (-1 : Int)) == (keepB p c))) = true then (true = true ∧ (false = y0 ∧ True)) else (True ∧ (if (bif false then true else (decide ((lossV p c) < (0 : Int)))) = true then (false = y0 ∧ True) else (True ∧ (if ((err6 p (ofV c)) != (0 : Int)) = true then (true = true ∧ (true = true ∧ (true = true ∧ (true = true ∧ (true = true ∧ (false = y0 ∧ True)))))) else (True ∧ (if (bif false then true else (decide (c.2.2.1 < (0 : Int)))) = true then (true = true ∧ (true = true ∧ (true = true ∧ (true = true ∧ (false = y0 ∧ True))))) else (True ∧ (if (bif false then true else (decide (c.2.2.1 ≥ (List.length (aftV p (ofV c)) : Int)))) = true then (true = true ∧ (true = true ∧ (true = true ∧ (false = y0 ∧ True)))) else (idx c.2.2.1 (List.length (aftV p (ofV c)) : Int) ∧ (True ∧ (if (bif false then true else (decide ((minE p c) < (List.getD (aftV p (ofV c)) (Int.toNat c.2.2.1) tR.dflt).1))) = true then (true = true ∧ (true = true ∧ (false = y0 ∧ True))) else (idx c.2.2.1 (List.length (aftV p (ofV c)) : Int) ∧ (True ∧ (if (bif false then true else (decide ((maxE p c) > (List.getD (aftV p (ofV c)) (Int.toNat c.2.2.1) tR.dflt).2.1))) = true then (true = true ∧ (false = y0 ∧ True)) else (idx c.2.2.1 (List.length (aftV p (ofV c)) : Int) ∧ (idx c.2.2.1 (List.length (aftV p (ofV c)) : Int) ∧ (inI ((List.getD (aftV p (ofV c)) (Int.toNat c.2.2.1) tR.dflt).2.1 - (List.getD (aftV p (ofV c)) (Int.toNat c.2.2.1) tR.dflt).1) ∧ (inI ((maxE p c) - (minE p c)) ∧ (inI (((List.getD (aftV p (ofV c)) (Int.toNat c.2.2.1) tR.dflt).2.1 - (List.getD (aftV p (ofV c)) (Int.toNat c.2.2.1) tR.dflt).1) - ((maxE p c) - (minE p c))) ∧ (True ∧ (if (bif false then true else ((lossV p c) != (((List.getD (aftV p (ofV c)) (Int.toNat c.2.2.1) tR.dflt).2.1 - (List.getD (aftV p (ofV c)) (Int.toNat c.2.2.1) tR.dflt).1) - ((maxE p c) - (minE p c))))) = true then (false = y0 ∧ True) else (True ∧ (if ((cErr p c) != (0 : Int)) = true then (false = y0 ∧ True) else (if (firstB p c) = true then (True ∧ (True ∧ (True ∧ (if ((pntE (firstV p c)) != (0 : Int)) = true then (true = true ∧ (true = true ∧ (false = y0 ∧ True))) else (True ∧ (if (bif false then true else ((err1 p (firstV p c)) != (0 : Int))) = true then (true = true ∧ (false = y0 ∧ True)) else (True ∧ (if (bif false then true else ((err6 p (pntV (firstV p c))) != (0 : Int))) = true then (false = y0 ∧ True) else (True ∧ (True ∧ (True ∧ (if ((hasE (aftV p (pntV (firstV p c))) (runV p (firstV p c))) != (0 : Int)) = true then (true = true ∧ (true = true ∧ (true = true ∧ (true = true ∧ (true = true ∧ (false = y0 ∧ True)))))) else (True ∧ (if (bif false then true else ((twoE (aftV p (pntV (firstV p c))) (aftV p (ofV c))) != (0 : Int))) = true then (true = true ∧ (true = true ∧ (true = true ∧ (true = true ∧ (false = y0 ∧ True))))) else (True ∧ (if (bif false then true else ((sizE (aftV p (pntV (firstV p c)))) != (0 : Int))) = true then (true = true ∧ (true = true ∧ (true = true ∧ (false = y0 ∧ True)))) else (True ∧ (if (bif false then true else (!(hasV (aftV p (pntV (firstV p c))) (runV p (firstV p c))))) = true then (true = true ∧ (true = true ∧ (false = y0 ∧ True))) else (True ∧ (if (bif false then true else (!(witV (aftV p (pntV (firstV p c))) (aftV p (ofV c))))) = true then (true = true ∧ (false = y0 ∧ True)) else (True ∧ (if (bif false then true else ((sizV (aftV p (pntV (firstV p c)))) != (0 : Int))) = true then (false = y0 ∧ True) else Λ1 )))))))))))))))))))))) else Λ1 ))))))))))))))))))))))))))))))))))))) else (false = false ∧ (True ∧ (if (bif false then true else false) = true then (true = true ∧ (true = true ∧ (true = true ∧ (true = true ∧ (false = y0 ∧ True))))) else (if ((verdV p c) != (1 : Int)) = true then (True ∧ (True ∧ (if (bif false then true else (bif true then (provV p c) else false)) = true then (true = true ∧ (true = true ∧ (true = true ∧ (false = y0 ∧ True)))) else (if ((verdV p c) == (1 : Int)) = true then (True ∧ (True ∧ (if (bif false then true else (bif true then (!(provV p c)) else false)) = true then (true = true ∧ (true = true ∧ (false = y0 ∧ True))) else (True ∧ (if (bif false then true else (((verdV p c) == (-1 : Int)) == (keepB p c))) = true then (true = true ∧ (false = y0 ∧ True)) else (True ∧ (if (bif false then true else (decide ((lossV p c) < (0 : Int)))) = true then (false = y0 ∧ True) else (True ∧ (if ((err6 p (ofV c)) != (0 : Int)) = true then (true = true ∧ (true = true ∧ (true = true ∧ (true = true ∧ (true = true ∧ (false = y0 ∧ True)))))) else (True ∧ (if (bif false then true else (decide (c.2.2.1 < (0 : Int)))) = true then (true = true ∧ (true = true ∧ (true = true ∧ (true = true ∧ (false = y0 ∧ True))))) else (True ∧ (if (bif false then true else (decide (c.2.2.1 ≥ (List.length (aftV p (ofV c)) : Int)))) = true then (true = true ∧ (true = true ∧ (true = true ∧ (false = y0 ∧ True)))) else (idx c.2.2.1 (List.length (aftV p (ofV c)) : Int) ∧ (True ∧ (if (bif false then true else (decide ((minE p c) < (List.getD (aftV p (ofV c)) (Int.toNat c.2.2.1) tR.dflt).1))) = true then (true = true ∧ (true = true ∧ (false = y0 ∧ True))) else (idx c.2.2.1 (List.length (aftV p (ofV c)) : Int) ∧ (True ∧ (if (bif false then true else (decide ((maxE p c) > (List.getD (aftV p (ofV c)) (Int.toNat c.2.2.1) tR.dflt).2.1))) = true then (true = true ∧ (false = y0 ∧ True)) else (idx c.2.2.1 (List.length (aftV p (ofV c)) : Int) ∧ (idx c.2.2.1 (List.length (aftV p (ofV c)) : Int) ∧ (inI ((List.getD (aftV p (ofV c)) (Int.toNat c.2.2.1) tR.dflt).2.1 - (List.getD (aftV p (ofV c)) (Int.toNat c.2.2.1) tR.dflt).1) ∧ (inI ((maxE p c) - (minE p c)) ∧ (inI (((List.getD (aftV p (ofV c)) (Int.toNat c.2.2.1) tR.dflt).2.1 - (List.getD (aftV p (ofV c)) (Int.toNat c.2.2.1) tR.dflt).1) - ((maxE p c) - (minE p c))) ∧ (True ∧ (if (bif false then true else ((lossV p c) != (((List.getD (aftV p (ofV c)) (Int.toNat c.2.2.1) tR.dflt).2.1 - (List.getD (aftV p (ofV c)) (Int.toNat c.2.2.1) tR.dflt).1) - ((maxE p c) - (minE p c))))) = true then (false = y0 ∧ True) else (True ∧ (if ((cErr p c) != (0 : Int)) = true then (false = y0 ∧ True) else (if (firstB p c) = true then (True ∧ (True ∧ (True ∧ (if ((pntE (firstV p c)) != (0 : Int)) = true then (true = true ∧ (true = true ∧ (false = y0 ∧ True))) else (True ∧ (if (bif false then true else ((err1 p (firstV p c)) != (0 : Int))) = true then (true = true ∧ (false = y0 ∧ True)) else (True ∧ (if (bif false then true else ((err6 p (pntV (firstV p c))) != (0 : Int))) = true then (false = y0 ∧ True) else (True ∧ (True ∧ (True ∧ (if ((hasE (aftV p (pntV (firstV p c))) (runV p (firstV p c))) != (0 : Int)) = true then (true = true ∧ (true = true ∧ (true = true ∧ (true = true ∧ (true = true ∧ (false = y0 ∧ True)))))) else (True ∧ (if (bif false then true else ((twoE (aftV p (pntV (firstV p c))) (aftV p (ofV c))) != (0 : Int))) = true then (true = true ∧ (true = true ∧ (true = true ∧ (true = true ∧ (false = y0 ∧ True))))) else (True ∧ (if (bif false then true else ((sizE (aftV p (pntV (firstV p c)))) != (0 : Int))) = true then (true = true ∧ (true = true ∧ (true = true ∧ (false = y0 ∧ True)))) else (True ∧ (if (bif false then true else (!(hasV (aftV p (pntV (firstV p c))) (runV p (firstV p c))))) = true then (true = true ∧ (true = true ∧ (false = y0 ∧ True))) else (True ∧ (if (bif false then true else (!(witV (aftV p (pntV (firstV p c))) (aftV p (ofV c))))) = true then (true = true ∧ (false = y0 ∧ True)) else (True ∧ (if (bif false then true else ((sizV (aftV p (pntV (firstV p c)))) != (0 : Int))) = true then (false = y0 ∧ True) else Λ1 )))))))))))))))))))))) else Λ1 ))))))))))))))))))))))))))))) else (false = false ∧ (True ∧ (if (bif false then true else false) = true then (true = true ∧ (true = true ∧ (false = y0 ∧ True))) else (True ∧ (if (bif false then true else (((verdV p c) == (-1 : Int)) == (keepB p c))) = true then (true = true ∧ (false = y0 ∧ True)) else (True ∧ (if (bif false then true else (decide ((lossV p c) < (0 : Int)))) = true then (false = y0 ∧ True) else (True ∧ (if ((err6 p (ofV c)) != (0 : Int)) = true then (true = true ∧ (true = true ∧ (true = true ∧ (true = true ∧ (true = true ∧ (false = y0 ∧ True)))))) else (True ∧ (if (bif false then true else (decide (c.2.2.1 < (0 : Int)))) = true then (true = true ∧ (true = true ∧ (true = true ∧ (true = true ∧ (false = y0 ∧ True))))) else (True ∧ (if (bif false then true else (decide (c.2.2.1 ≥ (List.length (aftV p (ofV c)) : Int)))) = true then (true = true ∧ (true = true ∧ (true = true ∧ (false = y0 ∧ True)))) else (idx c.2.2.1 (List.length (aftV p (ofV c)) : Int) ∧ (True ∧ (if (bif false then true else (decide ((minE p c) < (List.getD (aftV p (ofV c)) (Int.toNat c.2.2.1) tR.dflt).1))) = true then (true = true ∧ (true = true ∧ (false = y0 ∧ True))) else (idx c.2.2.1 (List.length (aftV p (ofV c)) : Int) ∧ (True ∧ (if (bif false then true else (decide ((maxE p c) > (List.getD (aftV p (ofV c)) (Int.toNat c.2.2.1) tR.dflt).2.1))) = true then (true = true ∧ (false = y0 ∧ True)) else (idx c.2.2.1 (List.length (aftV p (ofV c)) : Int) ∧ (idx c.2.2.1 (List.length (aftV p (ofV c)) : Int) ∧ (inI ((List.getD (aftV p (ofV c)) (Int.toNat c.2.2.1) tR.dflt).2.1 - (List.getD (aftV p (ofV c)) (Int.toNat c.2.2.1) tR.dflt).1) ∧ (inI ((maxE p c) - (minE p c)) ∧ (inI (((List.getD (aftV p (ofV c)) (Int.toNat c.2.2.1) tR.dflt).2.1 - (List.getD (aftV p (ofV c)) (Int.toNat c.2.2.1) tR.dflt).1) - ((maxE p c) - (minE p c))) ∧ (True ∧ (if (bif false then true else ((lossV p c) != (((List.getD (aftV p (ofV c)) (Int.toNat c.2.2.1) tR.dflt).2.1 - (List.getD (aftV p (ofV c)) (Int.toNat c.2.2.1) tR.dflt).1) - ((maxE p c) - (minE p c))))) = true then (false = y0 ∧ True) else (True ∧ (if ((cErr p c) != (0 : Int)) = true then (false = y0 ∧ True) else (if (firstB p c) = true then (True ∧ (True ∧ (True ∧ (if ((pntE (firstV p c)) != (0 : Int)) = true then (true = true ∧ (true = true ∧ (false = y0 ∧ True))) else (True ∧ (if (bif false then true else ((err1 p (firstV p c)) != (0 : Int))) = true then (true = true ∧ (false = y0 ∧ True)) else (True ∧ (if (bif false then true else ((err6 p (pntV (firstV p c))) != (0 : Int))) = true then (false = y0 ∧ True) else (True ∧ (True ∧ (True ∧ (if ((hasE (aftV p (pntV (firstV p c))) (runV p (firstV p c))) != (0 : Int)) = true then (true = true ∧ (true = true ∧ (true = true ∧ (true = true ∧ (true = true ∧ (false = y0 ∧ True)))))) else (True ∧ (if (bif false then true else ((twoE (aftV p (pntV (firstV p c))) (aftV p (ofV c))) != (0 : Int))) = true then (true = true ∧ (true = true ∧ (true = true ∧ (true = true ∧ (false = y0 ∧ True))))) else (True ∧ (if (bif false then true else ((sizE (aftV p (pntV (firstV p c)))) != (0 : Int))) = true then (true = true ∧ (true = true ∧ (true = true ∧ (false = y0 ∧ True)))) else (True ∧ (if (bif false then true else (!(hasV (aftV p (pntV (firstV p c))) (runV p (firstV p c))))) = true then (true = true ∧ (true = true ∧ (false = y0 ∧ True))) else (True ∧ (if (bif false then true else (!(witV (aftV p (pntV (firstV p c))) (aftV p (ofV c))))) = true then (true = true ∧ (false = y0 ∧ True)) else (True ∧ (if (bif false then true else ((sizV (aftV p (pntV (firstV p c)))) != (0 : Int))) = true then (false = y0 ∧ True) else Λ1 )))))))))))))))))))))) else Λ1 ))))))))))))))))))))))))))))))))) else (false = false ∧ (True ∧ (if (bif false then true else false) = true then (true = true ∧ (true = true ∧ (true = true ∧ (false = y0 ∧ True)))) else (if ((verdV p c) == (1 : Int)) = true then (True ∧ (True ∧ (if (bif false then true else (bif true then (!(provV p c)) else false)) = true then (true = true ∧ (true = true ∧ (false = y0 ∧ True))) else (True ∧ (if (bif false then true else (((verdV p c) == (-1 : Int)) == (keepB p c))) = true then (true = true ∧ (false = y0 ∧ True)) else (True ∧ (if (bif false then true else (decide ((lossV p c) < (0 : Int)))) = true then (false = y0 ∧ True) else (True ∧ (if ((err6 p (ofV c)) != (0 : Int)) = true then (true = true ∧ (true = true ∧ (true = true ∧ (true = true ∧ (true = true ∧ (false = y0 ∧ True)))))) else (True ∧ (if (bif false then true else (decide (c.2.2.1 < (0 : Int)))) = true then (true = true ∧ (true = true ∧ (true = true ∧ (true = true ∧ (false = y0 ∧ True))))) else (True ∧ (if (bif false then true else (decide (c.2.2.1 ≥ (List.length (aftV p (ofV c)) : Int)))) = true then (true = true ∧ (true = true ∧ (true = true ∧ (false = y0 ∧ True)))) else (idx c.2.2.1 (List.length (aftV p (ofV c)) : Int) ∧ (True ∧ (if (bif false then true else (decide ((minE p c) < (List.getD (aftV p (ofV c)) (Int.toNat c.2.2.1) tR.dflt).1))) = true then (true = true ∧ (true = true ∧ (false = y0 ∧ True))) else (idx c.2.2.1 (List.length (aftV p (ofV c)) : Int) ∧ (True ∧ (if (bif false then true else (decide ((maxE p c) > (List.getD (aftV p (ofV c)) (Int.toNat c.2.2.1) tR.dflt).2.1))) = true then (true = true ∧ (false = y0 ∧ True)) else (idx c.2.2.1 (List.length (aftV p (ofV c)) : Int) ∧ (idx c.2.2.1 (List.length (aftV p (ofV c)) : Int) ∧ (inI ((List.getD (aftV p (ofV c)) (Int.toNat c.2.2.1) tR.dflt).2.1 - (List.getD (aftV p (ofV c)) (Int.toNat c.2.2.1) tR.dflt).1) ∧ (inI ((maxE p c) - (minE p c)) ∧ (inI (((List.getD (aftV p (ofV c)) (Int.toNat c.2.2.1) tR.dflt).2.1 - (List.getD (aftV p (ofV c)) (Int.toNat c.2.2.1) tR.dflt).1) - ((maxE p c) - (minE p c))) ∧ (True ∧ (if (bif false then true else ((lossV p c) != (((List.getD (aftV p (ofV c)) (Int.toNat c.2.2.1) tR.dflt).2.1 - (List.getD (aftV p (ofV c)) (Int.toNat c.2.2.1) tR.dflt).1) - ((maxE p c) - (minE p c))))) = true then (false = y0 ∧ True) else (True ∧ (if ((cErr p c) != (0 : Int)) = true then (false = y0 ∧ True) else (if (firstB p c) = true then (True ∧ (True ∧ (True ∧ (if ((pntE (firstV p c)) != (0 : Int)) = true then (true = true ∧ (true = true ∧ (false = y0 ∧ True))) else (True ∧ (if (bif false then true else ((err1 p (firstV p c)) != (0 : Int))) = true then (true = true ∧ (false = y0 ∧ True)) else (True ∧ (if (bif false then true else ((err6 p (pntV (firstV p c))) != (0 : Int))) = true then (false = y0 ∧ True) else (True ∧ (True ∧ (True ∧ (if ((hasE (aftV p (pntV (firstV p c))) (runV p (firstV p c))) != (0 : Int)) = true then (true = true ∧ (true = true ∧ (true = true ∧ (true = true ∧ (true = true ∧ (false = y0 ∧ True)))))) else (True ∧ (if (bif false then true else ((twoE (aftV p (pntV (firstV p c))) (aftV p (ofV c))) != (0 : Int))) = true then (true = true ∧ (true = true ∧ (true = true ∧ (true = true ∧ (false = y0 ∧ True))))) else (True ∧ (if (bif false then true else ((sizE (aftV p (pntV (firstV p c)))) != (0 : Int))) = true then (true = true ∧ (true = true ∧ (true = true ∧ (false = y0 ∧ True)))) else (True ∧ (if (bif false then true else (!(hasV (aftV p (pntV (firstV p c))) (runV p (firstV p c))))) = true then (true = true ∧ (true = true ∧ (false = y0 ∧ True))) else (True ∧ (if (bif false then true else (!(witV (aftV p (pntV (firstV p c))) (aftV p (ofV c))))) = true then (true = true ∧ (false = y0 ∧ True)) else (True ∧ (if (bif false then true else ((sizV (aftV p (pntV (firstV p c)))) != (0 : Int))) = true then (false = y0 ∧ True) else Λ1 )))))))))))))))))))))) else Λ1 ))))))))))))))))))))))))))))) else (false = false ∧ (True ∧ (if (bif false then true else false) = true then (true = true ∧ (true = true ∧ (false = y0 ∧ True))) else (True ∧ (if (bif false then true else (((verdV p c) == (-1 : Int)) == (keepB p c))) = true then (true = true ∧ (false = y0 ∧ True)) else (True ∧ (if (bif false then true else (decide ((lossV p c) < (0 : Int)))) = true then (false = y0 ∧ True) else (True ∧ (if ((err6 p (ofV c)) != (0 : Int)) = true then (true = true ∧ (true = true ∧ (true = true ∧ (true = true ∧ (true = true ∧ (false = y0 ∧ True)))))) else (True ∧ (if (bif false then true else (decide (c.2.2.1 < (0 : Int)))) = true then (true = true ∧ (true = true ∧ (true = true ∧ (true = true ∧ (false = y0 ∧ True))))) else (True ∧ (if (bif false then true else (decide (c.2.2.1 ≥ (List.length (aftV p (ofV c)) : Int)))) = true then (true = true ∧ (true = true ∧ (true = true ∧ (false = y0 ∧ True)))) else (idx c.2.2.1 (List.length (aftV p (ofV c)) : Int) ∧ (True ∧ (if (bif false then true else (decide ((minE p c) < (List.getD (aftV p (ofV c)) (Int.toNat c.2.2.1) tR.dflt).1))) = true then (true = true ∧ (true = true ∧ (false = y0 ∧ True))) else (idx c.2.2.1 (List.length (aftV p (ofV c)) : Int) ∧ (True ∧ (if (bif false then true else (decide ((maxE p c) > (List.getD (aftV p (ofV c)) (Int.toNat c.2.2.1) tR.dflt).2.1))) = true then (true = true ∧ (false = y0 ∧ True)) else (idx c.2.2.1 (List.length (aftV p (ofV c)) : Int) ∧ (idx c.2.2.1 (List.length (aftV p (ofV c)) : Int) ∧ (inI ((List.getD (aftV p (ofV c)) (Int.toNat c.2.2.1) tR.dflt).2.1 - (List.getD (aftV p (ofV c)) (Int.toNat c.2.2.1) tR.dflt).1) ∧ (inI ((maxE p c) - (minE p c)) ∧ (inI (((List.getD (aftV p (ofV c)) (Int.toNat c.2.2.1) tR.dflt).2.1 - (List.getD (aftV p (ofV c)) (Int.toNat c.2.2.1) tR.dflt).1) - ((maxE p c) - (minE p c))) ∧ (True ∧ (if (bif false then true else ((lossV p c) != (((List.getD (aftV p (ofV c)) (Int.toNat c.2.2.1) tR.dflt).2.1 - (List.getD (aftV p (ofV c)) (Int.toNat c.2.2.1) tR.dflt).1) - ((maxE p c) - (minE p c))))) = true then (false = y0 ∧ True) else (True ∧ (if ((cErr p c) != (0 : Int)) = true then (false = y0 ∧ True) else (if (firstB p c) = true then (True ∧ (True ∧ (True ∧ (if ((pntE (firstV p c)) != (0 : Int)) = true then (true = true ∧ (true = true ∧ (false = y0 ∧ True))) else (True ∧ (if (bif false then true else ((err1 p (firstV p c)) != (0 : Int))) = true then (true = true ∧ (false = y0 ∧ True)) else (True ∧ (if (bif false then true else ((err6 p (pntV (firstV p c))) != (0 : Int))) = true then (false = y0 ∧ True) else (True ∧ (True ∧ (True ∧ (if ((hasE (aftV p (pntV (firstV p c))) (runV p (firstV p c))) != (0 : Int)) = true then (true = true ∧ (true = true ∧ (true = true ∧ (true = true ∧ (true = true ∧ (false = y0 ∧ True)))))) else (True ∧ (if (bif false then true else ((twoE (aftV p (pntV (firstV p c))) (aftV p (ofV c))) != (0 : Int))) = true then (true = true ∧ (true = true ∧ (true = true ∧ (true = true ∧ (false = y0 ∧ True))))) else (True ∧ (if (bif false then true else ((sizE (aftV p (pntV (firstV p c)))) != (0 : Int))) = true then (true = true ∧ (true = true ∧ (true = true ∧ (false = y0 ∧ True)))) else (True ∧ (if (bif false then true else (!(hasV (aftV p (pntV (firstV p c))) (runV p (firstV p c))))) = true then (true = true ∧ (true = true ∧ (false = y0 ∧ True))) else (True ∧ (if (bif false then true else (!(witV (aftV p (pntV (firstV p c))) (aftV p (ofV c))))) = true then (true = true ∧ (false = y0 ∧ True)) else (True ∧ (if (bif false then true else ((sizV (aftV p (pntV (firstV p c)))) != (0 : Int))) = true then (false = y0 ∧ True) else Λ1 )))))))))))))))))))))) else Λ1 )))))))))))))))))))))))))))))))))))))))))))))))))))))))))))))))
def cTopSpans_1 (Λ1 : Prop) (p : (List Lin)) (c : Ctr) (register : Int) (y0 : Bool)   : Prop :=
  True ∧ (if ((eachE p c register) != (0 : Int)) = true then (true = y0 ∧ True) else (if (provV p c) = true then (True ∧ (if (bif true then (!(eachV p c register)) else false) = true then (true = true ∧ (false = y0 ∧ True)) else (if (eachV p c register) = true then (True ∧ (True ∧ (if (bif false then true else (bif true then (!(keepB p c)) else false)) = true then (false = y0 ∧ True) else (True ∧ (if ((halfErr (ofV c) register) != (0 : Int)) = true then (((halfErr (ofV c) register) == (6 : Int)) = y0 ∧ True) else (True ∧ (True ∧ (if ((err6 p (halfLow (ofV c) register)) != (0 : Int)) = true then (true = true ∧ (false = y0 ∧ True)) else (True ∧ (if (bif false then true else ((err6 p (halfHigh (ofV c) register)) != (0 : Int))) = true then (false = y0 ∧ True) else (True ∧ (if ((twoE (aftV p (halfLow (ofV c) register)) (aftV p (halfHigh (ofV c) register))) != (0 : Int)) = true then (false = y0 ∧ True) else (True ∧ (if ((twoE (hulV (aftV p (halfLow (ofV c) register)) (aftV p (halfHigh (ofV c) register))) (aftV p (ofV c))) == (0 : Int)) = true then (True ∧ (if (bif true then (witV (hulV (aftV p (halfLow (ofV c) register)) (aftV p (halfHigh (ofV c) register))) (aftV p (ofV c))) else false) = true then (True ∧ (if (bif true then (decide (c.2.2.1 < (List.length (hulV (aftV p (halfLow (ofV c) register)) (aftV p (halfHigh (ofV c) register))) : Int))) else false) = true then (idx c.2.2.1 (List.length (hulV (aftV p (halfLow (ofV c) register)) (aftV p (halfHigh (ofV c) register))) : Int) ∧ (True ∧ (if (bif true then (decide ((minE p c) ≥ (List.getD (hulV (aftV p (halfLow (ofV c) register)) (aftV p (halfHigh (ofV c) register))) (Int.toNat c.2.2.1) tR.dflt).1)) else false) = true then (idx c.2.2.1 (List.length (hulV (aftV p (halfLow (ofV c) register)) (aftV p (halfHigh (ofV c) register))) : Int) ∧ (True ∧ ((bif true then (decide ((maxE p c) ≤ (List.getD (hulV (aftV p (halfLow (ofV c) register)) (aftV p (halfHigh (ofV c) register))) (Int.toNat c.2.2.1) tR.dflt).2.1)) else false) = y0 ∧ True))) else (false = false ∧ (false = y0 ∧ True))))) else (false = false ∧ (false = false ∧ (false = y0 ∧ True))))) else (false = false ∧ (false = false ∧ (false = false ∧ (false = y0 ∧ True)))))) else (false = false ∧ (false = false ∧ (false = false ∧ (false = false ∧ (false = y0 ∧ True))))))))))))))))))) else (false = false ∧ (True ∧ (if (bif false then true else false) = true then (false = y0 ∧ True) else (True ∧ (if ((halfErr (ofV c) register) != (0 : Int)) = true then (((halfErr (ofV c) register) == (6 : Int)) = y0 ∧ True) else (True ∧ (True ∧ (if ((err6 p (halfLow (ofV c) register)) != (0 : Int)) = true then (true = true ∧ (false = y0 ∧ True)) else (True ∧ (if (bif false then true else ((err6 p (halfHigh (ofV c) register)) != (0 : Int))) = true then (false = y0 ∧ True) else (True ∧ (if ((twoE (aftV p (halfLow (ofV c) register)) (aftV p (halfHigh (ofV c) register))) != (0 : Int)) = true then (false = y0 ∧ True) else (True ∧ (if ((twoE (hulV (aftV p (halfLow (ofV c) register)) (aftV p (halfHigh (ofV c) register))) (aftV p (ofV c))) == (0 : Int)) = true then (True ∧ (if (bif true then (witV (hulV (aftV p (halfLow (ofV c) register)) (aftV p (halfHigh (ofV c) register))) (aftV p (ofV c))) else false) = true then (True ∧ (if (bif true then (decide (c.2.2.1 < (List.length (hulV (aftV p (halfLow (ofV c) register)) (aftV p (halfHigh (ofV c) register))) : Int))) else false) = true then (idx c.2.2.1 (List.length (hulV (aftV p (halfLow (ofV c) register)) (aftV p (halfHigh (ofV c) register))) : Int) ∧ (True ∧ (if (bif true then (decide ((minE p c) ≥ (List.getD (hulV (aftV p (halfLow (ofV c) register)) (aftV p (halfHigh (ofV c) register))) (Int.toNat c.2.2.1) tR.dflt).1)) else false) = true then (idx c.2.2.1 (List.length (hulV (aftV p (halfLow (ofV c) register)) (aftV p (halfHigh (ofV c) register))) : Int) ∧ (True ∧ ((bif true then (decide ((maxE p c) ≤ (List.getD (hulV (aftV p (halfLow (ofV c) register)) (aftV p (halfHigh (ofV c) register))) (Int.toNat c.2.2.1) tR.dflt).2.1)) else false) = y0 ∧ True))) else (false = false ∧ (false = y0 ∧ True))))) else (false = false ∧ (false = false ∧ (false = y0 ∧ True))))) else (false = false ∧ (false = false ∧ (false = false ∧ (false = y0 ∧ True)))))) else (false = false ∧ (false = false ∧ (false = false ∧ (false = false ∧ (false = y0 ∧ True)))))))))))))))))))))) else (false = false ∧ (if (eachV p c register) = true then (True ∧ (True ∧ (if (bif false then true else (bif true then (!(keepB p c)) else false)) = true then (false = y0 ∧ True) else (True ∧ (if ((halfErr (ofV c) register) != (0 : Int)) = true then (((halfErr (ofV c) register) == (6 : Int)) = y0 ∧ True) else (True ∧ (True ∧ (if ((err6 p (halfLow (ofV c) register)) != (0 : Int)) = true then (true = true ∧ (false = y0 ∧ True)) else (True ∧ (if (bif false then true else ((err6 p (halfHigh (ofV c) register)) != (0 : Int))) = true then (false = y0 ∧ True) else (True ∧ (if ((twoE (aftV p (halfLow (ofV c) register)) (aftV p (halfHigh (ofV c) register))) != (0 : Int)) = true then (false = y0 ∧ True) else (True ∧ (if ((twoE (hulV (aftV p (halfLow (ofV c) register)) (aftV p (halfHigh (ofV c) register))) (aftV p (ofV c))) == (0 : Int)) = true then (True ∧ (if (bif true then (witV (hulV (aftV p (halfLow (ofV c) register)) (aftV p (halfHigh (ofV c) register))) (aftV p (ofV c))) else false) = true then (True ∧ (if (bif true then (decide (c.2.2.1 < (List.length (hulV (aftV p (halfLow (ofV c) register)) (aftV p (halfHigh (ofV c) register))) : Int))) else false) = true then (idx c.2.2.1 (List.length (hulV (aftV p (halfLow (ofV c) register)) (aftV p (halfHigh (ofV c) register))) : Int) ∧ (True ∧ (if (bif true then (decide ((minE p c) ≥ (List.getD (hulV (aftV p (halfLow (ofV c) register)) (aftV p (halfHigh (ofV c) register))) (Int.toNat c.2.2.1) tR.dflt).1)) else false) = true then (idx c.2.2.1 (List.length (hulV (aftV p (halfLow (ofV c) register)) (aftV p (halfHigh (ofV c) register))) : Int) ∧ (True ∧ ((bif true then (decide ((maxE p c) ≤ (List.getD (hulV (aftV p (halfLow (ofV c) register)) (aftV p (halfHigh (ofV c) register))) (Int.toNat c.2.2.1) tR.dflt).2.1)) else false) = y0 ∧ True))) else (false = false ∧ (false = y0 ∧ True))))) else (false = false ∧ (false = false ∧ (false = y0 ∧ True))))) else (false = false ∧ (false = false ∧ (false = false ∧ (false = y0 ∧ True)))))) else (false = false ∧ (false = false ∧ (false = false ∧ (false = false ∧ (false = y0 ∧ True))))))))))))))))))) else (false = false ∧ (True ∧ (if (bif false then true else false) = true then (false = y0 ∧ True) else (True ∧ (if ((halfErr (ofV c) register) != (0 : Int)) = true then (((halfErr (ofV c) register) == (6 : Int)) = y0 ∧ True) else (True ∧ (True ∧ (if ((err6 p (halfLow (ofV c) register)) != (0 : Int)) = true then (true = true ∧ (false = y0 ∧ True)) else (True ∧ (if (bif false then true else ((err6 p (halfHigh (ofV c) register)) != (0 : Int))) = true then (false = y0 ∧ True) else (True ∧ (if ((twoE (aftV p (halfLow (ofV c) register)) (aftV p (halfHigh (ofV c) register))) != (0 : Int)) = true then (false = y0 ∧ True) else (True ∧ (if ((twoE (hulV (aftV p (halfLow (ofV c) register)) (aftV p (halfHigh (ofV c) register))) (aftV p (ofV c))) == (0 : Int)) = true then (True ∧ (if (bif true then (witV (hulV (aftV p (halfLow (ofV c) register)) (aftV p (halfHigh (ofV c) register))) (aftV p (ofV c))) else false) = true then (True ∧ (if (bif true then (decide (c.2.2.1 < (List.length (hulV (aftV p (halfLow (ofV c) register)) (aftV p (halfHigh (ofV c) register))) : Int))) else false) = true then (idx c.2.2.1 (List.length (hulV (aftV p (halfLow (ofV c) register)) (aftV p (halfHigh (ofV c) register))) : Int) ∧ (True ∧ (if (bif true then (decide ((minE p c) ≥ (List.getD (hulV (aftV p (halfLow (ofV c) register)) (aftV p (halfHigh (ofV c) register))) (Int.toNat c.2.2.1) tR.dflt).1)) else false) = true then (idx c.2.2.1 (List.length (hulV (aftV p (halfLow (ofV c) register)) (aftV p (halfHigh (ofV c) register))) : Int) ∧ (True ∧ ((bif true then (decide ((maxE p c) ≤ (List.getD (hulV (aftV p (halfLow (ofV c) register)) (aftV p (halfHigh (ofV c) register))) (Int.toNat c.2.2.1) tR.dflt).2.1)) else false) = y0 ∧ True))) else (false = false ∧ (false = y0 ∧ True))))) else (false = false ∧ (false = false ∧ (false = y0 ∧ True))))) else (false = false ∧ (false = false ∧ (false = false ∧ (false = y0 ∧ True)))))) else (false = false ∧ (false = false ∧ (false = false ∧ (false = false ∧ (false = y0 ∧ True)))))))))))))))))))))))
theorem cTopSpans_law (h : ∀ (p : (List Lin)) (c : Ctr) (register : Int), cTopSpans.A.wf (p, c, register, ()) → ∀ (Λ1 : Prop), (cTopSpans_1 Λ1 p c register true → Λ1) → cTopSpans_0 Λ1 p c register true) : ConOK Go.Proofs.Try.prog 4 cTopSpans := by
  refine lawL (Γ := [(24, cAfter_), (30, cEach_), (13, cExtremes), (7, cFirst_), (31, cHalves), (27, cHas_), (32, cHull_), (11, cKeeps_), (9, cLongL), (23, cLoss), (21, cOf_), (25, cPoint_), (20, cProves_), (19, cReached_), (26, cRun_), (8, cSameIntsR), (29, cSize_), (22, cVerdict), (10, cWide), (28, cWithinB_)]) (Θ := Th) (n := 387) [([1, 1, 1, 1, 1, 1, 1, 1, 1, 1, 1, 1, 1, 1, 1, 2], ⟨[(0, false), (2, false), (4, true), (9, true), (11, true), (12, true), (13, true), (15, true), (21, true)], [(4, false)]⟩)] ⟨cAfter__ok, cEach__ok, cExtremes_ok, cFirst__ok, cHalves_ok, cHas__ok, cHull__ok, cKeeps__ok, cLongL_ok, cLoss_ok, cOf__ok, cPoint__ok, cProves__ok, cReached__ok, cRun__ok, cSameIntsR_ok, cSize__ok, cVerdict_ok, cWide_ok, cWithinB__ok, trivial⟩ (by kernel_rfl) th_ok mix_ok Go.Proofs.Try.func4 (by kernel_rfl) ?_
  intro x hw hp Λ hC
  have h0 := h x.1 x.2.1 x.2.2.1 hw (Λ [1, 1, 1, 1, 1, 1, 1, 1, 1, 1, 1, 1, 1, 1, 1, 2] ([(0, .d false (.sl tL) x.1), (2, .d false .int x.2.2.1), (4, .ptr 4 0 []), (9, .d true .bool (provV x.1 x.2.1)), (11, .d true .bool (keepB x.1 x.2.1)), (12, .d true .int (minE x.1 x.2.1)), (13, .d true .int (maxE x.1 x.2.1)), (15, .d true (.sl tR) (ofV x.2.1)), (21, .d true (.sl tR) (aftV x.1 (ofV x.2.1)))], [(4, .box false tCt x.2.1)])) (fun  hb => hC [1, 1, 1, 1, 1, 1, 1, 1, 1, 1, 1, 1, 1, 1, 1, 2] ([(0, .d false (.sl tL) x.1), (2, .d false .int x.2.2.1), (4, .ptr 4 0 []), (9, .d true .bool (provV x.1 x.2.1)), (11, .d true .bool (keepB x.1 x.2.1)), (12, .d true .int (minE x.1 x.2.1)), (13, .d true .int (maxE x.1 x.2.1)), (15, .d true (.sl tR) (ofV x.2.1)), (21, .d true (.sl tR) (aftV x.1 (ofV x.2.1)))], [(4, .box false tCt x.2.1)]) (Eq.mpr (by kernel_rfl) hb))
  exact Eq.mpr (by kernel_rfl) h0
theorem cTopSpans_ok : ConOK Go.Proofs.Try.prog 4 cTopSpans := by
  refine cTopSpans_law ?_
  intro p c register hw Λ1 h1
  unfold cTopSpans_0
  have k0 : err6 [(7, 1, 0, 1, ()), (1, 2, 9, 0, ())] [(3, 4, ()), (1, 2, ()), (0, 0, ()), (0, 0, ())] = 0 := by decide +kernel
  have k1 : reachV [(7, 1, 0, 1, ()), (1, 2, 9, 0, ())] [(3, 4, ()), (1, 2, ()), (0, 0, ()), (0, 0, ())] = [0, 1] := by decide +kernel
  by_cases c1 : 100 < p.length
  · simp [k0, k1, c1]
  by_cases c3 : 100 < c.1.length ∨ 100 < c.2.1.length
  · simp [k0, k1, c1, c3]
  by_cases e : cErr p c = 0
  · obtain ⟨g1, g2⟩ := cErr_ok e
    obtain ⟨hb, ho, hm⟩ := isCtr_box (validC_ok g2).1
    have hall := (validP_ok g1).2
    have hB := boxOf_valid hb
    have hA := afterB_ok hall hB
    have eO : ofV c = boxOf c.1 c.2.1 := if_pos g2
    have eA : aftV p (boxOf c.1 c.2.1) = afterB p (boxOf c.1 c.2.1) := aftV_of g1 hB
    have lA := validB_len hA
    have vA := validB_get hA ho.1 ho.2
    have hP : provV p c = proveB p c (boxCt c) := by unfold provV; rw [e]; rfl
    have hK : keepB p c = (badL p c).isEmpty := by unfold keepB; rw [e]; rfl
    have pk : provV p c = true → keepB p c = true := fun q => by rw [hK, prove_keeps e (by rw [← hP]; exact q)]; rfl
    have hΛ : Λ1 := by
      apply h1; unfold cTopSpans_1
      by_cases ee : eachE p c register = 0
      · have er : isReg register = true := by
          unfold eachE at ee
          rw [if_pos e] at ee
          cases h : isReg register
          · rw [h] at ee; cases ee
          · rfl
        have rr := within_iff.1 (show within register 0 3 = true from er)
        have hE : eachV p c register = eachB p c register := by unfold eachV; rw [ee]; rfl
        have pe : provV p c = true → eachV p c register = true := fun q => by rw [hE]; exact prove_each e rr.1 rr.2 (by rw [← hP]; exact q)
        have ek : eachV p c register = true → keepB p c = true := fun q => by rw [hK, each_keeps e rr.1 rr.2 (by rw [← hE]; exact q)]; rfl
        rw [eO]
        by_cases hf : halfErr (boxOf c.1 c.2.1) register = 0
        · have v1 := halfLow_ok hf
          have v2 := halfHigh_ok hf
          have a1 := afterB_ok hall v1
          have a2 := afterB_ok hall v2
          have lo1 : leBox (afterB p (halfLow (boxOf c.1 c.2.1) register)) (afterB p (boxOf c.1 c.2.1)) := (leBox_iff a1 hA).1 (after_mono hall v1 hB ((leBox_iff v1 hB).2 (halfLow_le hf)))
          have lo2 : leBox (afterB p (halfHigh (boxOf c.1 c.2.1) register)) (afterB p (boxOf c.1 c.2.1)) := (leBox_iff a2 hA).1 (after_mono hall v2 hB ((leBox_iff v2 hB).2 (halfHigh_le hf)))
          have hJ := join_ok a1 a2
          have tw : twoE (afterB p (halfLow (boxOf c.1 c.2.1) register)) (afterB p (halfHigh (boxOf c.1 c.2.1) register)) = 0 := by unfold twoE; rw [twoOK_iff.2 ⟨a1, a2⟩]; rfl
          have hH : hulV (afterB p (halfLow (boxOf c.1 c.2.1) register)) (afterB p (halfHigh (boxOf c.1 c.2.1) register)) = join hull2 (afterB p (halfLow (boxOf c.1 c.2.1) register)) (afterB p (halfHigh (boxOf c.1 c.2.1) register)) := by unfold hulV; rw [twoOK_iff.2 ⟨a1, a2⟩]; rfl
          have hw := wit_of hJ hA ((leBox_join a1 a2).2 ⟨lo1, lo2⟩)
          have lJ := validB_len hJ
          have vJ := validB_get hJ ho.1 ho.2
          have jj := (leBox_join a1 a2).1 (leBox_refl (join hull2 (afterB p (halfLow (boxOf c.1 c.2.1) register)) (afterB p (halfHigh (boxOf c.1 c.2.1) register))))
          have each : ∀ s ∈ statesC c, (Rd (join hull2 (afterB p (halfLow (boxOf c.1 c.2.1) register)) (afterB p (halfHigh (boxOf c.1 c.2.1) register))) c.2.2.1).1 ≤ Rg (runS p s) c.2.2.1 ∧ Rg (runS p s) c.2.2.1 ≤ (Rd (join hull2 (afterB p (halfLow (boxOf c.1 c.2.1) register)) (afterB p (halfHigh (boxOf c.1 c.2.1) register))) c.2.2.1).2.1 := by
            intro s hs
            have hv := stateC_valid hb hs
            have hin := (point_le hB hv).2 (state_le hb hs)
            rw [(half_has hf hv).2, Bool.or_eq_true] at hin
            rcases hin with q | q
            · have := end_Rd g1 v1 hv ((point_le v1 hv).1 q) ho.1 ho.2
              have := leBox_Rd jj.1 c.2.2.1
              omega
            · have := end_Rd g1 v2 hv ((point_le v2 hv).1 q) ho.1 ho.2
              have := leBox_Rd jj.2 c.2.2.1
              omega
          have m1 : (Rd (join hull2 (afterB p (halfLow (boxOf c.1 c.2.1) register)) (afterB p (halfHigh (boxOf c.1 c.2.1) register))) c.2.2.1).1 ≤ minE p c := by
            unfold minE; rw [if_pos e]
            exact (fold_min_le _ _ _ _).2 ⟨by omega, fun s hs => (each s hs).1⟩
          have m2 : maxE p c ≤ (Rd (join hull2 (afterB p (halfLow (boxOf c.1 c.2.1) register)) (afterB p (halfHigh (boxOf c.1 c.2.1) register))) c.2.2.1).2.1 := by
            unfold maxE; rw [if_pos e]
            exact (fold_le_max _ _ _ _).2 ⟨by omega, fun s hs => (each s hs).2⟩
          rw [aftV_of g1 v1, aftV_of g1 v2, eA, hH]
          have i1 := err6_of g1 v1
          have i2 := err6_of g1 v2
          unfold Rd at m1 m2
          generalize join hull2 (afterB p (halfLow (boxOf c.1 c.2.1) register)) (afterB p (halfHigh (boxOf c.1 c.2.1) register)) = J at hw lJ m1 m2 ⊢
          generalize List.getD J (Int.toNat c.2.2.1) tR.dflt = rj at m1 m2 ⊢
          obtain ⟨w1, w2⟩ := hw
          have ix : idx c.2.2.1 (J.length : Int) := ⟨ho.1, by omega⟩
          have o4 : c.2.2.1 < (J.length : Int) := by omega
          generalize provV p c = PV at pe ⊢
          generalize eachV p c register = EV at pe ek ⊢
          generalize keepB p c = KV at ek ⊢
          cases EV
          · have : PV = false := by
              cases PV
              · rfl
              · exact absurd (pe rfl) (by simp)
            subst this
            simp [ee, hf, i1, i2, tw, w1, w2, ix, o4, m1, m2]
          · have := ek rfl
            subst this
            cases PV <;> simp [ee, hf, i1, i2, tw, w1, w2, ix, o4, m1, m2]
        · have h6 : halfErr (boxOf c.1 c.2.1) register = 6 := by
            unfold halfErr at hf ⊢
            rw [if_pos ⟨hB, rr⟩] at hf ⊢
            split at hf
            · rw [if_pos (by assumption)]
            · exact absurd rfl hf
          generalize provV p c = PV at pe ⊢
          generalize eachV p c register = EV at pe ek ⊢
          generalize keepB p c = KV at ek ⊢
          cases EV
          · have : PV = false := by
              cases PV
              · rfl
              · exact absurd (pe rfl) (by simp)
            subst this
            simp [ee, h6]
          · have := ek rfl
            subst this
            cases PV <;> simp [ee, h6]
      · simp [ee]
    have hV : verdV p c = if keepB p c = true then (if provV p c = true then 1 else 0) else -1 := by
      unfold verdV
      rw [if_pos e, hK, hP]
    have hx := ext_in e
    have hL : lossV p c = (Rd (afterB p (boxOf c.1 c.2.1)) c.2.2.1).2.1 - (Rd (afterB p (boxOf c.1 c.2.1)) c.2.2.1).1 - (maxE p c - minE p c) := if_pos e
    have fs := @first_spans p c
    have i1 := err6_of g1 hB
    rw [eO, eA] at fs
    unfold boxCt Rd at hx
    unfold Rd at hL vA
    rw [eO, eA]
    generalize afterB p (boxOf c.1 c.2.1) = A at lA hx hL fs vA ⊢
    generalize List.getD A (Int.toNat c.2.2.1) tR.dflt = ra at hx hL vA ⊢
    generalize pntE (firstV p c) = z1 at fs ⊢
    generalize err1 p (firstV p c) = z2 at fs ⊢
    generalize err6 p (pntV (firstV p c)) = z3 at fs ⊢
    generalize aftV p (pntV (firstV p c)) = z4 at fs ⊢
    generalize hasE z4 (runV p (firstV p c)) = z5 at fs ⊢
    generalize hasV z4 (runV p (firstV p c)) = z6 at fs ⊢
    generalize twoE z4 A = z7 at fs ⊢
    generalize witV z4 A = z8 at fs ⊢
    generalize sizE z4 = z9 at fs ⊢
    generalize sizV z4 = z0 at fs ⊢
    have ix : idx c.2.2.1 (A.length : Int) := ⟨ho.1, by omega⟩
    have o1 : ¬ c.2.2.1 < 0 := by omega
    have o2 : ¬ (A.length : Int) ≤ c.2.2.1 := by omega
    have q1 : ¬ minE p c < ra.1 := by omega
    have q2 : ¬ ra.2.1 < maxE p c := by omega
    have n1 : inI (ra.2.1 - ra.1) := by unfold inI; omega
    have n2 : inI (maxE p c - minE p c) := by unfold inI; omega
    have n3 : inI (ra.2.1 - ra.1 - (maxE p c - minE p c)) := by unfold inI; omega
    have n4 : ¬ lossV p c < 0 := by omega
    have fin : ∀ b : Bool, firstB p c = b → (if b = true then (z1 = 0 ∧ z2 = 0 ∧ z3 = 0 ∧ z5 = 0 ∧ z7 = 0 ∧ z9 = 0 ∧ z6 = true ∧ z8 = true ∧ z0 = 0) else True) := by
      intro b hb
      cases b
      · simp
      · rw [if_pos rfl]; exact fs hb
    generalize lossV p c = lo at hL n4 ⊢
    generalize provV p c = PV at pk hV ⊢
    generalize keepB p c = KV at pk hV ⊢
    generalize verdV p c = VV at hV ⊢
    have fin2 := fin _ rfl
    generalize firstB p c = FB at fin2 ⊢
    subst hV; subst hL
    cases PV
    · cases KV
      · cases FB
        · simp [k0, k1, c1, c3, e, g2, i1, o1, o2, ix, q1, q2, n1, n2, n3, n4, hΛ]
        · obtain ⟨r1, r2, r3, r4, r5, r6, r7, r8, r9⟩ := fin2
          subst r1; subst r2; subst r3; subst r4; subst r5; subst r6; subst r7; subst r8; subst r9
          simp [k0, k1, c1, c3, e, g2, i1, o1, o2, ix, q1, q2, n1, n2, n3, n4, hΛ]
      · cases FB
        · simp [k0, k1, c1, c3, e, g2, i1, o1, o2, ix, q1, q2, n1, n2, n3, n4, hΛ]
        · obtain ⟨r1, r2, r3, r4, r5, r6, r7, r8, r9⟩ := fin2
          subst r1; subst r2; subst r3; subst r4; subst r5; subst r6; subst r7; subst r8; subst r9
          simp [k0, k1, c1, c3, e, g2, i1, o1, o2, ix, q1, q2, n1, n2, n3, n4, hΛ]
    · have := pk rfl
      subst this
      cases FB
      · simp [k0, k1, c1, c3, e, g2, i1, o1, o2, ix, q1, q2, n1, n2, n3, n4, hΛ]
      · obtain ⟨r1, r2, r3, r4, r5, r6, r7, r8, r9⟩ := fin2
        subst r1; subst r2; subst r3; subst r4; subst r5; subst r6; subst r7; subst r8; subst r9
        simp [k0, k1, c1, c3, e, g2, i1, o1, o2, ix, q1, q2, n1, n2, n3, n4, hΛ]
  · simp [k0, k1, c1, c3, e]
end Go.Tk
