/- What holds across contracts and tests: the program's own answers (layers 1, 2). -/
import Derived.Test.YtookhknbjofmkaaC2y
set_option linter.unusedSimpArgs false
set_option linter.unusedVariables false
set_option linter.unnecessarySimpa false
namespace Go.Tk
open Go Go.RowKit
def firstV (p : List Lin) (c : Ctr) : List Int := if cErr p c = 0 then (badL p c).headD [] else []
def firstB (p : List Lin) (c : Ctr) : Bool := (cErr p c == 0 && !(badL p c).isEmpty)
def keepB (p : List Lin) (c : Ctr) : Bool := (cErr p c == 0 && (badL p c).isEmpty)
def badN (p : List Lin) (c : Ctr) : Int := if cErr p c = 0 then ((badL p c).length : Int) else 0
def sizeV (c : Ctr) : Int := if validC c = 0 then sizeC c else 0
def makeV (p : List Lin) (s : List Int) (o : Int) : Tst := if makeErr p s o = 0 then (s, o, Rg (runS p s) o, ()) else (([] : List Int), 0, 0, ())
def passV (p : List Lin) (t : Tst) : Bool := errT [p] [t] == 0 && passT p t
def tellV (p q : List Lin) (l : List Tst) : List Int := if errT [p, q] l = 0 then tellsT p q l else []
def difV (p q : List Lin) (c : Ctr) : List Int := if cErr2 p q c = 0 then (difL p q c).headD [] else []
def difB (p q : List Lin) (c : Ctr) : Bool := (cErr2 p q c == 0 && !(difL p q c).isEmpty)
def errT1 (p : List Lin) (t : Tst) : Int := errT [p] [t]
def errT2 (p q : List Lin) (l : List Tst) : Int := errT [p, q] l
abbrev cFirst_ : Con := { A := (.cons (.sl tL) (.cons tCt .nil)), R := (.cons (.sl .int) (.cons .bool (.cons .int .nil))), pre := fun x => True, F := fun x => (firstV x.1 x.2.1, firstB x.1 x.2.1, cErr x.1 x.2.1, ()) }
theorem cFirst__ok : ConOK Go.Proofs.Try.prog 7 cFirst_ := cFirst_ok
abbrev cKeeps_ : Con := { A := (.cons (.sl tL) (.cons tCt .nil)), R := (.cons .bool (.cons .int .nil)), pre := fun x => True, F := fun x => (keepB x.1 x.2.1, cErr x.1 x.2.1, ()) }
theorem cKeeps__ok : ConOK Go.Proofs.Try.prog 11 cKeeps_ := cKeeps_ok
abbrev cBad_ : Con := { A := (.cons (.sl tL) (.cons tCt .nil)), R := (.cons .int (.cons .int .nil)), pre := fun x => True, F := fun x => (badN x.1 x.2.1, cErr x.1 x.2.1, ()) }
theorem cBad__ok : ConOK Go.Proofs.Try.prog 12 cBad_ := cBad_ok
abbrev cBox_ : Con := { A := (.cons tCt .nil), R := (.cons .int (.cons .int .nil)), pre := fun x => True, F := fun x => (sizeV x.1, validC x.1, ()) }
theorem cBox__ok : ConOK Go.Proofs.Try.prog 14 cBox_ := cBox2_ok
abbrev cMake_ : Con := { A := (.cons (.sl tL) (.cons (.sl .int) (.cons .int .nil))), R := (.cons tTs (.cons .int .nil)), pre := fun x => True, F := fun x => (makeV x.1 x.2.1 x.2.2.1, makeErr x.1 x.2.1 x.2.2.1, ()) }
theorem cMake__ok : ConOK Go.Proofs.Try.prog 15 cMake_ := cMake_ok
abbrev cPasses_ : Con := { A := (.cons (.sl tL) (.cons tTs .nil)), R := (.cons .bool (.cons .int .nil)), pre := fun x => True, F := fun x => (passV x.1 x.2.1, errT1 x.1 x.2.1, ()) }
theorem cPasses__ok : ConOK Go.Proofs.Try.prog 16 cPasses_ := cPasses_ok
abbrev cTells_ : Con := { A := (.cons (.sl tL) (.cons (.sl tL) (.cons (.sl tTs) .nil))), R := (.cons (.sl .int) (.cons .int .nil)), pre := fun x => True, F := fun x => (tellV x.1 x.2.1 x.2.2.1, errT2 x.1 x.2.1 x.2.2.1, ()) }
theorem cTells__ok : ConOK Go.Proofs.Try.prog 17 cTells_ := cTells_ok
abbrev cDiffer_ : Con := { A := (.cons (.sl tL) (.cons (.sl tL) (.cons tCt .nil))), R := (.cons (.sl .int) (.cons .bool (.cons .int .nil))), pre := fun x => True, F := fun x => (difV x.1 x.2.1 x.2.2.1, difB x.1 x.2.1 x.2.2.1, cErr2 x.1 x.2.1 x.2.2.1, ()) }
theorem cDiffer__ok : ConOK Go.Proofs.Try.prog 18 cDiffer_ := cDiffer_ok
theorem first_mem {p : List Lin} {c : Ctr} (h : firstB p c = true) : cErr p c = 0 ∧ firstV p c ∈ statesC c ∧ keepS p c (firstV p c) = false := by
  unfold firstB at h
  rw [Bool.and_eq_true, beq_iff_eq] at h
  refine ⟨h.1, ?_⟩
  unfold firstV
  rw [if_pos h.1]
  cases hb : badL p c with
  | nil => rw [hb] at h; cases h.2
  | cons a t =>
    have hm : a ∈ badL p c := by rw [hb]; exact List.mem_cons_self ..
    unfold badL at hm
    rw [List.mem_filter] at hm
    exact ⟨hm.1, by simpa using hm.2⟩
theorem dif_mem {p q : List Lin} {c : Ctr} (h : difB p q c = true) : cErr2 p q c = 0 ∧ difV p q c ∈ statesC c ∧ Rg (runS p (difV p q c)) c.2.2.1 ≠ Rg (runS q (difV p q c)) c.2.2.1 := by
  unfold difB at h
  rw [Bool.and_eq_true, beq_iff_eq] at h
  refine ⟨h.1, ?_⟩
  unfold difV
  rw [if_pos h.1]
  cases hb : difL p q c with
  | nil => rw [hb] at h; cases h.2
  | cons a t =>
    have hm : a ∈ difL p q c := by rw [hb]; exact List.mem_cons_self ..
    unfold difL at hm
    rw [List.mem_filter] at hm
    exact ⟨hm.1, by simpa using hm.2⟩
theorem make_ok {p : List Lin} {s : List Int} {o : Int} (h : makeErr p s o = 0) : validP p = 0 ∧ validS s = true ∧ (0 ≤ o ∧ o ≤ 3) ∧ makeV p s o = (s, o, Rg (runS p s) o, ()) := by
  have h0 := h
  unfold makeErr at h
  by_cases g : validP p = 0
  · rw [if_pos g, argErr_zero, Bool.and_eq_true] at h
    refine ⟨g, h.1, isReg_ok h.2, ?_⟩
    unfold makeV; rw [if_pos h0]
  · rw [if_neg g] at h; exact absurd h g
theorem make_of {p : List Lin} {s : List Int} {o : Int} (hp : validP p = 0) (hs : validS s = true) (ho : 0 ≤ o ∧ o ≤ 3) : makeErr p s o = 0 := by
  unfold makeErr
  rw [if_pos hp, hs, show isReg o = true from within_iff.2 ho]; rfl
theorem errT1_of {p : List Lin} {t : Tst} (hp : validP p = 0) (ht : isTst t = true) : errT1 p t = 0 := by
  unfold errT1 errT
  rw [firstErr_one, if_pos hp]
  unfold validT
  rw [if_neg (by simp)]
  simp [ht, argErr]
theorem errT2_of {p q : List Lin} {t : Tst} (hp : validP p = 0) (hq : validP q = 0) (ht : isTst t = true) : errT2 p q [t] = 0 := by
  unfold errT2 errT
  rw [firstErr_two, if_pos hp, if_pos hq]
  unfold validT
  rw [if_neg (by simp)]
  simp [ht, argErr]
theorem make_tst {p : List Lin} {s : List Int} {o : Int} (h : makeErr p s o = 0) : isTst (makeV p s o) = true := by
  obtain ⟨h1, h2, h3, h4⟩ := make_ok h
  rw [h4, isTst_iff]
  exact ⟨h2, h3, validS_get (runS_ok h2) o⟩
theorem pass_make {p : List Lin} {s : List Int} {o : Int} (h : makeErr p s o = 0) : passV p (makeV p s o) = true := by
  have ht := make_tst h
  obtain ⟨h1, h2, h3, h4⟩ := make_ok h
  unfold passV
  rw [show errT [p] [makeV p s o] = 0 from errT1_of h1 ht, h4]
  unfold passT endT
  simp
theorem tell_one {p q : List Lin} {t : Tst} : (tellsT p q [t]).length = if endT p t ≠ endT q t then 1 else 0 := by
  unfold tellsT whereL
  simp only [List.length_cons, List.length_nil]
  unfold whereTo whereTo
  simp only [List.nil_append]
  by_cases h : endT p t = endT q t
  · rw [if_neg (by simp [h]), if_neg (by simp [h])]; rfl
  · rw [if_pos (by simpa using h), if_pos h]; rfl
theorem tell_self {p : List Lin} {t : Tst} : tellV p p [t] = [] := by
  unfold tellV
  split
  · have := tell_one (p := p) (q := p) (t := t)
    rw [if_neg (by simp)] at this
    exact List.length_eq_zero_iff.1 this
  · rfl
theorem in_ext {p : List Lin} {c : Ctr} (e : cErr p c = 0) {s : List Int} (hs : s ∈ statesC c) : minE p c ≤ Rg (runS p s) c.2.2.1 ∧ Rg (runS p s) c.2.2.1 ≤ maxE p c := by
  unfold minE maxE
  rw [if_pos e, if_pos e]
  exact ⟨((fold_min_le (fun s => Rg (runS p s) c.2.2.1) _ (statesC c) 999).1 (Int.le_refl _)).2 _ hs, ((fold_le_max (fun s => Rg (runS p s) c.2.2.1) _ (statesC c) (-999)).1 (Int.le_refl _)).2 _ hs⟩
theorem keep_facts {p : List Lin} {c : Ctr} (e : cErr p c = 0) : keepB p c = (badN p c == 0) ∧ keepB p c = !(firstB p c) ∧ keepB p c = (decide (c.2.2.2.1 ≤ minE p c) && decide (maxE p c ≤ c.2.2.2.2.1)) ∧ badN p c ≤ sizeV c := by
  obtain ⟨hb, ho, hm⟩ := isCtr_box (validC_ok (cErr_ok e).2).1
  have hk : keepB p c = (badL p c).isEmpty := by unfold keepB; rw [e]; rfl
  have hf : firstB p c = !(badL p c).isEmpty := by unfold firstB; rw [e]; rfl
  have hn : badN p c = ((badL p c).length : Int) := by unfold badN; rw [if_pos e]
  refine ⟨?_, ?_, ?_, ?_⟩
  · rw [hk, hn]
    cases badL p c with
    | nil => rfl
    | cons a t =>
      have : (((a :: t).length : Int) == 0) = false := by simp; omega
      rw [this]; rfl
  · rw [hk, hf, Bool.not_not]
  · rw [hk, keeps_ext e]
  · rw [hn]
    unfold sizeV
    rw [if_pos (cErr_ok e).2, ← statesC_len hb]
    have : (badL p c).length ≤ (statesC c).length := List.length_filter_le ..
    omega
theorem first_facts {p : List Lin} {c : Ctr} (h : firstB p c = true) : makeErr p (firstV p c) c.2.2.1 = 0 ∧ ¬ (c.2.2.2.1 ≤ (makeV p (firstV p c) c.2.2.1).2.2.1 ∧ (makeV p (firstV p c) c.2.2.1).2.2.1 ≤ c.2.2.2.2.1) ∧
    errT1 p ((makeV p (firstV p c) c.2.2.1).1, (makeV p (firstV p c) c.2.2.1).2.1, c.2.2.2.1, ()) = 0 ∧ passV p ((makeV p (firstV p c) c.2.2.1).1, (makeV p (firstV p c) c.2.2.1).2.1, c.2.2.2.1, ()) = false := by
  obtain ⟨e, h1, h2⟩ := first_mem h
  obtain ⟨g1, g2⟩ := cErr_ok e
  obtain ⟨hb, ho, hm⟩ := isCtr_box (validC_ok g2).1
  have hv := stateC_valid hb h1
  have m0 := make_of g1 hv ho
  obtain ⟨_, _, _, m4⟩ := make_ok m0
  have hk : ¬ (c.2.2.2.1 ≤ Rg (runS p (firstV p c)) c.2.2.1 ∧ Rg (runS p (firstV p c)) c.2.2.1 ≤ c.2.2.2.2.1) := by
    unfold keepS at h2
    rw [← within_iff, h2]; simp
  refine ⟨m0, ?_, ?_, ?_⟩
  · rw [m4]; exact hk
  · rw [m4]
    exact errT1_of g1 (isTst_iff.2 ⟨hv, ho, by show -999 ≤ c.2.2.2.1 ∧ c.2.2.2.1 ≤ 999; omega⟩)
  · rw [m4]
    unfold passV passT endT
    have : (Rg (runS p (firstV p c)) c.2.2.1 == c.2.2.2.1) = false := by
      rw [beq_eq_false_iff_ne]
      intro q
      exact hk (by omega)
    show (_ && (Rg (runS p (firstV p c)) c.2.2.1 == c.2.2.2.1)) = false
    rw [this, Bool.and_false]

abbrev cTopChecks : Con := { A := (.cons tPair (.cons tCt (.cons (.sl .int) .nil))), R := (.cons .bool .nil), pre := fun x => True, F := fun x => (true, ()) }
def cTopChecks_0 (Λ1 : Prop) (Λ2 : Bool → Int → Prop) (x : PairT) (c : Ctr) (in_ : (List Int)) (y0 : Bool) : Prop :=
  True ∧ (if ((cErr ([] : List Lin) ([(0 : Int), (0 : Int), (0 : Int), (0 : Int)], [(1 : Int), (0 : Int), (0 : Int), (2 : Int)], 3, 0, 1, ())) != (0 : Int)) = true then (true = true ∧ (true = true ∧ (false = y0 ∧ True))) else (True ∧ (if (bif false then true else (!(firstB ([] : List Lin) ([(0 : Int), (0 : Int), (0 : Int), (0 : Int)], [(1 : Int), (0 : Int), (0 : Int), (2 : Int)], 3, 0, 1, ())))) = true then (true = true ∧ (false = y0 ∧ True)) else ((firstV ([] : List Lin) ([(0 : Int), (0 : Int), (0 : Int), (0 : Int)], [(1 : Int), (0 : Int), (0 : Int), (2 : Int)], 3, 0, 1, ())).length ≤ 1000000 ∧ (True ∧ (if (bif false then true else (!(decide ((firstV ([] : List Lin) ([(0 : Int), (0 : Int), (0 : Int), (0 : Int)], [(1 : Int), (0 : Int), (0 : Int), (2 : Int)], 3, 0, 1, ())) = [(0 : Int), (0 : Int), (0 : Int), (2 : Int)])))) = true then (false = y0 ∧ True) else (True ∧ (if (decide (100 < x.1.length)) = true then (true = true ∧ (true = true ∧ (true = true ∧ (true = y0 ∧ True)))) else (True ∧ (True ∧ (if (bif false then true else (decide (100 < x.2.1.length))) = true then (true = true ∧ (true = true ∧ (true = y0 ∧ True))) else (True ∧ (True ∧ (if (bif false then true else (decide (100 < c.1.length ∨ 100 < c.2.1.length))) = true then (true = true ∧ (true = y0 ∧ True)) else (True ∧ (if (bif false then true else (decide ((List.length in_ : Int) > (100 : Int)))) = true then (true = y0 ∧ True) else (True ∧ (if ((cErr x.1 c) != (0 : Int)) = true then (true = y0 ∧ True) else (True ∧ (True ∧ (True ∧ (True ∧ (if ((cErr x.1 c) != (0 : Int)) = true then (true = true ∧ (true = true ∧ (true = true ∧ (true = true ∧ (true = true ∧ (true = true ∧ (true = true ∧ (false = y0 ∧ True)))))))) else (True ∧ (if (bif false then true else ((cErr x.1 c) != (0 : Int))) = true then (true = true ∧ (true = true ∧ (true = true ∧ (true = true ∧ (true = true ∧ (true = true ∧ (false = y0 ∧ True))))))) else (True ∧ (if (bif false then true else ((cErr x.1 c) != (0 : Int))) = true then (true = true ∧ (true = true ∧ (true = true ∧ (true = true ∧ (true = true ∧ (false = y0 ∧ True)))))) else (True ∧ (if (bif false then true else ((validC c) != (0 : Int))) = true then (true = true ∧ (true = true ∧ (true = true ∧ (true = true ∧ (false = y0 ∧ True))))) else (True ∧ (if (bif false then true else (!((keepB x.1 c) == ((badN x.1 c) == (0 : Int))))) = true then (true = true ∧ (true = true ∧ (true = true ∧ (false = y0 ∧ True)))) else (True ∧ (if (bif false then true else ((keepB x.1 c) == (firstB x.1 c))) = true then (true = true ∧ (true = true ∧ (false = y0 ∧ True))) else (if (decide ((minE x.1 c) ≥ c.2.2.2.1)) = true then (True ∧ (True ∧ (if (bif false then true else (!((keepB x.1 c) == (bif true then (decide ((maxE x.1 c) ≤ c.2.2.2.2.1)) else false)))) = true then (true = true ∧ (false = y0 ∧ True)) else (True ∧ (if (bif false then true else (decide ((badN x.1 c) > (sizeV c)))) = true then (false = y0 ∧ True) else (if (firstB x.1 c) = true then (True ∧ (if ((makeErr x.1 (firstV x.1 c) c.2.2.1) != (0 : Int)) = true then (true = true ∧ (false = y0 ∧ True)) else (if (decide ((makeV x.1 (firstV x.1 c) c.2.2.1).2.2.1 ≥ c.2.2.2.1)) = true then (True ∧ (True ∧ (if (bif false then true else (bif true then (decide ((makeV x.1 (firstV x.1 c) c.2.2.1).2.2.1 ≤ c.2.2.2.2.1)) else false)) = true then (false = y0 ∧ True) else (True ∧ (if ((errT1 x.1 ((makeV x.1 (firstV x.1 c) c.2.2.1).1, (makeV x.1 (firstV x.1 c) c.2.2.1).2.1, c.2.2.2.1, ())) != (0 : Int)) = true then (true = true ∧ (false = y0 ∧ True)) else (True ∧ (if (bif false then true else (passV x.1 ((makeV x.1 (firstV x.1 c) c.2.2.1).1, (makeV x.1 (firstV x.1 c) c.2.2.1).2.1, c.2.2.2.1, ()))) = true then (false = y0 ∧ True) else Λ1 ))))))) else (false = false ∧ (True ∧ (if (bif false then true else false) = true then (false = y0 ∧ True) else (True ∧ (if ((errT1 x.1 ((makeV x.1 (firstV x.1 c) c.2.2.1).1, (makeV x.1 (firstV x.1 c) c.2.2.1).2.1, c.2.2.2.1, ())) != (0 : Int)) = true then (true = true ∧ (false = y0 ∧ True)) else (True ∧ (if (bif false then true else (passV x.1 ((makeV x.1 (firstV x.1 c) c.2.2.1).1, (makeV x.1 (firstV x.1 c) c.2.2.1).2.1, c.2.2.2.1, ()))) = true then (false = y0 ∧ True) else Λ1 )))))))))) else Λ1 )))))) else (false = false ∧ (True ∧ (if (bif false then true else (!((keepB x.1 c) == false))) = true then (true = true ∧ (false = y0 ∧ True)) else (True ∧ (if (bif false then true else (decide ((badN x.1 c) > (sizeV c)))) = true then (false = y0 ∧ True) else (if (firstB x.1 c) = true then (True ∧ (if ((makeErr x.1 (firstV x.1 c) c.2.2.1) != (0 : Int)) = true then (true = true ∧ (false = y0 ∧ True)) else (if (decide ((makeV x.1 (firstV x.1 c) c.2.2.1).2.2.1 ≥ c.2.2.2.1)) = true then (True ∧ (True ∧ (if (bif false then true else (bif true then (decide ((makeV x.1 (firstV x.1 c) c.2.2.1).2.2.1 ≤ c.2.2.2.2.1)) else false)) = true then (false = y0 ∧ True) else (True ∧ (if ((errT1 x.1 ((makeV x.1 (firstV x.1 c) c.2.2.1).1, (makeV x.1 (firstV x.1 c) c.2.2.1).2.1, c.2.2.2.1, ())) != (0 : Int)) = true then (true = true ∧ (false = y0 ∧ True)) else (True ∧ (if (bif false then true else (passV x.1 ((makeV x.1 (firstV x.1 c) c.2.2.1).1, (makeV x.1 (firstV x.1 c) c.2.2.1).2.1, c.2.2.2.1, ()))) = true then (false = y0 ∧ True) else Λ1 ))))))) else (false = false ∧ (True ∧ (if (bif false then true else false) = true then (false = y0 ∧ True) else (True ∧ (if ((errT1 x.1 ((makeV x.1 (firstV x.1 c) c.2.2.1).1, (makeV x.1 (firstV x.1 c) c.2.2.1).2.1, c.2.2.2.1, ())) != (0 : Int)) = true then (true = true ∧ (false = y0 ∧ True)) else (True ∧ (if (bif false then true else (passV x.1 ((makeV x.1 (firstV x.1 c) c.2.2.1).1, (makeV x.1 (firstV x.1 c) c.2.2.1).2.1, c.2.2.2.1, ()))) = true then (false = y0 ∧ True) else Λ1 )))))))))) else Λ1 ))))))))))))))))))))))))))))))))))))))))
def cTopChecks_1 (Λ1 : Prop) (Λ2 : Bool → Int → Prop) (x : PairT) (c : Ctr) (in_ : (List Int)) (y0 : Bool)   : Prop :=
  True ∧ (if ((makeErr x.1 in_ c.2.2.1) != (0 : Int)) = true then (true = y0 ∧ True) else (True ∧ (True ∧ (if ((errT1 x.1 (makeV x.1 in_ c.2.2.1)) != (0 : Int)) = true then (true = true ∧ (true = true ∧ (true = true ∧ (false = y0 ∧ True)))) else (True ∧ (if (bif false then true else (!(passV x.1 (makeV x.1 in_ c.2.2.1)))) = true then (true = true ∧ (true = true ∧ (false = y0 ∧ True))) else (True ∧ (if (bif false then true else ((errT2 x.1 x.1 [(makeV x.1 in_ c.2.2.1)]) != (0 : Int))) = true then (true = true ∧ (false = y0 ∧ True)) else (True ∧ (if (bif false then true else (decide ((List.length (tellV x.1 x.1 [(makeV x.1 in_ c.2.2.1)]) : Int) > (0 : Int)))) = true then (false = y0 ∧ True) else (if ((List.length in_ : Int) == (List.length c.1 : Int)) = true then (True ∧ Λ2 (bif true then ((List.length in_ : Int) == (List.length c.2.1 : Int)) else false) (0 : Int)) else (false = false ∧ Λ2 false (0 : Int)))))))))))))
def cTopChecks_2 (Λ1 : Prop) (Λ2 : Bool → Int → Prop) (x : PairT) (c : Ctr) (in_ : (List Int)) (y0 : Bool)  (inside_2 : Bool) (i_2 : Int) : Prop :=
  if (decide (i_2 < (List.length in_ : Int))) = true then (True ∧ (if (bif true then inside_2 else false) = true then (idx i_2 (List.length in_ : Int) ∧ (idx i_2 (List.length c.1 : Int) ∧ (if (decide ((List.getD in_ (Int.toNat i_2) 0) ≥ (List.getD c.1 (Int.toNat i_2) 0))) = true then (idx i_2 (List.length in_ : Int) ∧ (idx i_2 (List.length c.2.1 : Int) ∧ (True ∧ (inI (i_2 + (1 : Int)) ∧ Λ2 (bif true then (decide ((List.getD in_ (Int.toNat i_2) 0) ≤ (List.getD c.2.1 (Int.toNat i_2) 0))) else false) (i_2 + (1 : Int)))))) else (false = false ∧ (inI (i_2 + (1 : Int)) ∧ Λ2 false (i_2 + (1 : Int))))))) else (if inside_2 = true then (if (decide ((makeV x.1 in_ c.2.2.1).2.2.1 < (minE x.1 c))) = true then (true = true ∧ (True ∧ (if (bif true then true else false) = true then (false = y0 ∧ True) else (True ∧ (if ((cErr2 x.1 x.2.1 c) != (0 : Int)) = true then (true = y0 ∧ True) else (True ∧ (if ((errT2 x.1 x.2.1 [(makeV x.1 in_ c.2.2.1)]) != (0 : Int)) = true then (false = y0 ∧ True) else (if inside_2 = true then (True ∧ (if (bif true then (decide ((List.length (tellV x.1 x.2.1 [(makeV x.1 in_ c.2.2.1)]) : Int) > (0 : Int))) else false) = true then (True ∧ (if (bif true then (!(difB x.1 x.2.1 c)) else false) = true then (false = y0 ∧ True) else (if (!(difB x.1 x.2.1 c)) = true then (true = y0 ∧ True) else (True ∧ (True ∧ (if ((makeErr x.1 (difV x.1 x.2.1 c) c.2.2.1) == (0 : Int)) = true then (True ∧ (if (bif true then ((makeErr x.2.1 (difV x.1 x.2.1 c) c.2.2.1) == (0 : Int)) else false) = true then (True ∧ ((bif true then ((makeV x.1 (difV x.1 x.2.1 c) c.2.2.1).2.2.1 != (makeV x.2.1 (difV x.1 x.2.1 c) c.2.2.1).2.2.1) else false) = y0 ∧ True)) else (false = false ∧ (false = y0 ∧ True)))) else (false = false ∧ (false = false ∧ (false = y0 ∧ True))))))))) else (false = false ∧ (if (!(difB x.1 x.2.1 c)) = true then (true = y0 ∧ True) else (True ∧ (True ∧ (if ((makeErr x.1 (difV x.1 x.2.1 c) c.2.2.1) == (0 : Int)) = true then (True ∧ (if (bif true then ((makeErr x.2.1 (difV x.1 x.2.1 c) c.2.2.1) == (0 : Int)) else false) = true then (True ∧ ((bif true then ((makeV x.1 (difV x.1 x.2.1 c) c.2.2.1).2.2.1 != (makeV x.2.1 (difV x.1 x.2.1 c) c.2.2.1).2.2.1) else false) = y0 ∧ True)) else (false = false ∧ (false = y0 ∧ True)))) else (false = false ∧ (false = false ∧ (false = y0 ∧ True)))))))))) else (false = false ∧ (false = false ∧ (if (!(difB x.1 x.2.1 c)) = true then (true = y0 ∧ True) else (True ∧ (True ∧ (if ((makeErr x.1 (difV x.1 x.2.1 c) c.2.2.1) == (0 : Int)) = true then (True ∧ (if (bif true then ((makeErr x.2.1 (difV x.1 x.2.1 c) c.2.2.1) == (0 : Int)) else false) = true then (True ∧ ((bif true then ((makeV x.1 (difV x.1 x.2.1 c) c.2.2.1).2.2.1 != (makeV x.2.1 (difV x.1 x.2.1 c) c.2.2.1).2.2.1) else false) = y0 ∧ True)) else (false = false ∧ (false = y0 ∧ True)))) else (false = false ∧ (false = false ∧ (false = y0 ∧ True))))))))))))))))) else (True ∧ (True ∧ (if (bif true then (bif false then true else (decide ((makeV x.1 in_ c.2.2.1).2.2.1 > (maxE x.1 c)))) else false) = true then (false = y0 ∧ True) else (True ∧ (if ((cErr2 x.1 x.2.1 c) != (0 : Int)) = true then (true = y0 ∧ True) else (True ∧ (if ((errT2 x.1 x.2.1 [(makeV x.1 in_ c.2.2.1)]) != (0 : Int)) = true then (false = y0 ∧ True) else (if inside_2 = true then (True ∧ (if (bif true then (decide ((List.length (tellV x.1 x.2.1 [(makeV x.1 in_ c.2.2.1)]) : Int) > (0 : Int))) else false) = true then (True ∧ (if (bif true then (!(difB x.1 x.2.1 c)) else false) = true then (false = y0 ∧ True) else (if (!(difB x.1 x.2.1 c)) = true then (true = y0 ∧ True) else (True ∧ (True ∧ (if ((makeErr x.1 (difV x.1 x.2.1 c) c.2.2.1) == (0 : Int)) = true then (True ∧ (if (bif true then ((makeErr x.2.1 (difV x.1 x.2.1 c) c.2.2.1) == (0 : Int)) else false) = true then (True ∧ ((bif true then ((makeV x.1 (difV x.1 x.2.1 c) c.2.2.1).2.2.1 != (makeV x.2.1 (difV x.1 x.2.1 c) c.2.2.1).2.2.1) else false) = y0 ∧ True)) else (false = false ∧ (false = y0 ∧ True)))) else (false = false ∧ (false = false ∧ (false = y0 ∧ True))))))))) else (false = false ∧ (if (!(difB x.1 x.2.1 c)) = true then (true = y0 ∧ True) else (True ∧ (True ∧ (if ((makeErr x.1 (difV x.1 x.2.1 c) c.2.2.1) == (0 : Int)) = true then (True ∧ (if (bif true then ((makeErr x.2.1 (difV x.1 x.2.1 c) c.2.2.1) == (0 : Int)) else false) = true then (True ∧ ((bif true then ((makeV x.1 (difV x.1 x.2.1 c) c.2.2.1).2.2.1 != (makeV x.2.1 (difV x.1 x.2.1 c) c.2.2.1).2.2.1) else false) = y0 ∧ True)) else (false = false ∧ (false = y0 ∧ True)))) else (false = false ∧ (false = false ∧ (false = y0 ∧ True)))))))))) else (false = false ∧ (false = false ∧ (if (!(difB x.1 x.2.1 c)) = true then (true = y0 ∧ True) else (True ∧ (True ∧ (if ((makeErr x.1 (difV x.1 x.2.1 c) c.2.2.1) == (0 : Int)) = true then (True ∧ (if (bif true then ((makeErr x.2.1 (difV x.1 x.2.1 c) c.2.2.1) == (0 : Int)) else false) = true then (True ∧ ((bif true then ((makeV x.1 (difV x.1 x.2.1 c) c.2.2.1).2.2.1 != (makeV x.2.1 (difV x.1 x.2.1 c) c.2.2.1).2.2.1) else false) = y0 ∧ True)) else (false = false ∧ (false = y0 ∧ True)))) else (false = false ∧ (false = false ∧ (false = y0 ∧ True)))))))))))))))))) else (false = false ∧ (True ∧ (if ((cErr2 x.1 x.2.1 c) != (0 : Int)) = true then (true = y0 ∧ True) else (True ∧ (if ((errT2 x.1 x.2.1 [(makeV x.1 in_ c.2.2.1)]) != (0 : Int)) = true then (false = y0 ∧ True) else (if inside_2 = true then (True ∧ (if (bif true then (decide ((List.length (tellV x.1 x.2.1 [(makeV x.1 in_ c.2.2.1)]) : Int) > (0 : Int))) else false) = true then (True ∧ (if (bif true then (!(difB x.1 x.2.1 c)) else false) = true then (false = y0 ∧ True) else (if (!(difB x.1 x.2.1 c)) = true then (true = y0 ∧ True) else (True ∧ (True ∧ (if ((makeErr x.1 (difV x.1 x.2.1 c) c.2.2.1) == (0 : Int)) = true then (True ∧ (if (bif true then ((makeErr x.2.1 (difV x.1 x.2.1 c) c.2.2.1) == (0 : Int)) else false) = true then (True ∧ ((bif true then ((makeV x.1 (difV x.1 x.2.1 c) c.2.2.1).2.2.1 != (makeV x.2.1 (difV x.1 x.2.1 c) c.2.2.1).2.2.1) else false) = y0 ∧ True)) else (false = false ∧ (false = y0 ∧ True)))) else (false = false ∧ (false = false ∧ (false = y0 ∧ True))))))))) else (false = false ∧ (if (!(difB x.1 x.2.1 c)) = true then (true = y0 ∧ True) else (True ∧ (True ∧ (if ((makeErr x.1 (difV x.1 x.2.1 c) c.2.2.1) == (0 : Int)) = true then (True ∧ (if (bif true then ((makeErr x.2.1 (difV x.1 x.2.1 c) c.2.2.1) == (0 : Int)) else false) = true then (True ∧ ((bif true then ((makeV x.1 (difV x.1 x.2.1 c) c.2.2.1).2.2.1 != (makeV x.2.1 (difV x.1 x.2.1 c) c.2.2.1).2.2.1) else false) = y0 ∧ True)) else (false = false ∧ (false = y0 ∧ True)))) else (false = false ∧ (false = false ∧ (false = y0 ∧ True)))))))))) else (false = false ∧ (false = false ∧ (if (!(difB x.1 x.2.1 c)) = true then (true = y0 ∧ True) else (True ∧ (True ∧ (if ((makeErr x.1 (difV x.1 x.2.1 c) c.2.2.1) == (0 : Int)) = true then (True ∧ (if (bif true then ((makeErr x.2.1 (difV x.1 x.2.1 c) c.2.2.1) == (0 : Int)) else false) = true then (True ∧ ((bif true then ((makeV x.1 (difV x.1 x.2.1 c) c.2.2.1).2.2.1 != (makeV x.2.1 (difV x.1 x.2.1 c) c.2.2.1).2.2.1) else false) = y0 ∧ True)) else (false = false ∧ (false = y0 ∧ True)))) else (false = false ∧ (false = false ∧ (false = y0 ∧ True)))))))))))))))))) else (false = false ∧ (if inside_2 = true then (if (decide ((makeV x.1 in_ c.2.2.1).2.2.1 < (minE x.1 c))) = true then (true = true ∧ (True ∧ (if (bif true then true else false) = true then (false = y0 ∧ True) else (True ∧ (if ((cErr2 x.1 x.2.1 c) != (0 : Int)) = true then (true = y0 ∧ True) else (True ∧ (if ((errT2 x.1 x.2.1 [(makeV x.1 in_ c.2.2.1)]) != (0 : Int)) = true then (false = y0 ∧ True) else (if inside_2 = true then (True ∧ (if (bif true then (decide ((List.length (tellV x.1 x.2.1 [(makeV x.1 in_ c.2.2.1)]) : Int) > (0 : Int))) else false) = true then (True ∧ (if (bif true then (!(difB x.1 x.2.1 c)) else false) = true then (false = y0 ∧ True) else (if (!(difB x.1 x.2.1 c)) = true then (true = y0 ∧ True) else (True ∧ (True ∧ (if ((makeErr x.1 (difV x.1 x.2.1 c) c.2.2.1) == (0 : Int)) = true then (True ∧ (if (bif true then ((makeErr x.2.1 (difV x.1 x.2.1 c) c.2.2.1) == (0 : Int)) else false) = true then (True ∧ ((bif true then ((makeV x.1 (difV x.1 x.2.1 c) c.2.2.1).2.2.1 != (makeV x.2.1 (difV x.1 x.2.1 c) c.2.2.1).2.2.1) else false) = y0 ∧ True)) else (false = false ∧ (false = y0 ∧ True)))) else (false = false ∧ (false = false ∧ (false = y0 ∧ True))))))))) else (false = false ∧ (if (!(difB x.1 x.2.1 c)) = true then (true = y0 ∧ True) else (True ∧ (True ∧ (if ((makeErr x.1 (difV x.1 x.2.1 c) c.2.2.1) == (0 : Int)) = true then (True ∧ (if (bif true then ((makeErr x.2.1 (difV x.1 x.2.1 c) c.2.2.1) == (0 : Int)) else false) = true then (True ∧ ((bif true then ((makeV x.1 (difV x.1 x.2.1 c) c.2.2.1).2.2.1 != (makeV x.2.1 (difV x.1 x.2.1 c) c.2.2.1).2.2.1) else false) = y0 ∧ True)) else (false = false ∧ (false = y0 ∧ True)))) else (false = false ∧ (false = false ∧ (false = y0 ∧ True)))))))))) else (false = false ∧ (false = false ∧ (if (!(difB x.1 x.2.1 c)) = true then (true = y0 ∧ True) else (True ∧ (True ∧ (if ((makeErr x.1 (difV x.1 x.2.1 c) c.2.2.1) == (0 : Int)) = true then (True ∧ (if (bif true then ((makeErr x.2.1 (difV x.1 x.2.1 c) c.2.2.1) == (0 : Int)) else false) = true then (True ∧ ((bif true then ((makeV x.1 (difV x.1 x.2.1 c) c.2.2.1).2.2.1 != (makeV x.2.1 (difV x.1 x.2.1 c) c.2.2.1).2.2.1) else false) = y0 ∧ True)) else (false = false ∧ (false = y0 ∧ True)))) else (false = false ∧ (false = false ∧ (false = y0 ∧ True))))))))))))))))) else (True ∧ (True ∧ (if (bif true then (bif false then true else (decide ((makeV x.1 in_ c.2.2.1).2.2.1 > (maxE x.1 c)))) else false) = true then (false = y0 ∧ True) else (True ∧ (if ((cErr2 x.1 x.2.1 c) != (0 : Int)) = true then (true = y0 ∧ True) else (True ∧ (if ((errT2 x.1 x.2.1 [(makeV x.1 in_ c.2.2.1)]) != (0 : Int)) = true then (false = y0 ∧ True) else (if inside_2 = true then (True ∧ (if (bif true then (decide ((List.length (tellV x.1 x.2.1 [(makeV x.1 in_ c.2.2.1)]) : Int) > (0 : Int))) else false) = true then (True ∧ (if (bif true then (!(difB x.1 x.2.1 c)) else false) = true then (false = y0 ∧ True) else (if (!(difB x.1 x.2.1 c)) = true then (true = y0 ∧ True) else (True ∧ (True ∧ (if ((makeErr x.1 (difV x.1 x.2.1 c) c.2.2.1) == (0 : Int)) = true then (True ∧ (if (bif true then ((makeErr x.2.1 (difV x.1 x.2.1 c) c.2.2.1) == (0 : Int)) else false) = true then (True ∧ ((bif true then ((makeV x.1 (difV x.1 x.2.1 c) c.2.2.1).2.2.1 != (makeV x.2.1 (difV x.1 x.2.1 c) c.2.2.1).2.2.1) else false) = y0 ∧ True)) else (false = false ∧ (false = y0 ∧ True)))) else (false = false ∧ (false = false ∧ (false = y0 ∧ True))))))))) else (false = false ∧ (if (!(difB x.1 x.2.1 c)) = true then (true = y0 ∧ True) else (True ∧ (True ∧ (if ((makeErr x.1 (difV x.1 x.2.1 c) c.2.2.1) == (0 : Int)) = true then (True ∧ (if (bif true then ((makeErr x.2.1 (difV x.1 x.2.1 c) c.2.2.1) == (0 : Int)) else false) = true then (True ∧ ((bif true then ((makeV x.1 (difV x.1 x.2.1 c) c.2.2.1).2.2.1 != (makeV x.2.1 (difV x.1 x.2.1 c) c.2.2.1).2.2.1) else false) = y0 ∧ True)) else (false = false ∧ (false = y0 ∧ True)))) else (false = false ∧ (false = false ∧ (false = y0 ∧ True)))))))))) else (false = false ∧ (false = false ∧ (if (!(difB x.1 x.2.1 c)) = true then (true = y0 ∧ True) else (True ∧ (True ∧ (if ((makeErr x.1 (difV x.1 x.2.1 c) c.2.2.1) == (0 : Int)) = true then (True ∧ (if (bif true then ((makeErr x.2.1 (difV x.1 x.2.1 c) c.2.2.1) == (0 : Int)) else false) = true then (True ∧ ((bif true then ((makeV x.1 (difV x.1 x.2.1 c) c.2.2.1).2.2.1 != (makeV x.2.1 (difV x.1 x.2.1 c) c.2.2.1).2.2.1) else false) = y0 ∧ True)) else (false = false ∧ (false = y0 ∧ True)))) else (false = false ∧ (false = false ∧ (false = y0 ∧ True)))))))))))))))))) else (false = false ∧ (True ∧ (if ((cErr2 x.1 x.2.1 c) != (0 : Int)) = true then (true = y0 ∧ True) else (True ∧ (if ((errT2 x.1 x.2.1 [(makeV x.1 in_ c.2.2.1)]) != (0 : Int)) = true then (false = y0 ∧ True) else (if inside_2 = true then (True ∧ (if (bif true then (decide ((List.length (tellV x.1 x.2.1 [(makeV x.1 in_ c.2.2.1)]) : Int) > (0 : Int))) else false) = true then (True ∧ (if (bif true then (!(difB x.1 x.2.1 c)) else false) = true then (false = y0 ∧ True) else (if (!(difB x.1 x.2.1 c)) = true then (true = y0 ∧ True) else (True ∧ (True ∧ (if ((makeErr x.1 (difV x.1 x.2.1 c) c.2.2.1) == (0 : Int)) = true then (True ∧ (if (bif true then ((makeErr x.2.1 (difV x.1 x.2.1 c) c.2.2.1) == (0 : Int)) else false) = true then (True ∧ ((bif true then ((makeV x.1 (difV x.1 x.2.1 c) c.2.2.1).2.2.1 != (makeV x.2.1 (difV x.1 x.2.1 c) c.2.2.1).2.2.1) else false) = y0 ∧ True)) else (false = false ∧ (false = y0 ∧ True)))) else (false = false ∧ (false = false ∧ (false = y0 ∧ True))))))))) else (false = false ∧ (if (!(difB x.1 x.2.1 c)) = true then (true = y0 ∧ True) else (True ∧ (True ∧ (if ((makeErr x.1 (difV x.1 x.2.1 c) c.2.2.1) == (0 : Int)) = true then (True ∧ (if (bif true then ((makeErr x.2.1 (difV x.1 x.2.1 c) c.2.2.1) == (0 : Int)) else false) = true then (True ∧ ((bif true then ((makeV x.1 (difV x.1 x.2.1 c) c.2.2.1).2.2.1 != (makeV x.2.1 (difV x.1 x.2.1 c) c.2.2.1).2.2.1) else false) = y0 ∧ True)) else (false = false ∧ (false = y0 ∧ True)))) else (false = false ∧ (false = false ∧ (false = y0 ∧ True)))))))))) else (false = false ∧ (false = false ∧ (if (!(difB x.1 x.2.1 c)) = true then (true = y0 ∧ True) else (True ∧ (True ∧ (if ((makeErr x.1 (difV x.1 x.2.1 c) c.2.2.1) == (0 : Int)) = true then (True ∧ (if (bif true then ((makeErr x.2.1 (difV x.1 x.2.1 c) c.2.2.1) == (0 : Int)) else false) = true then (True ∧ ((bif true then ((makeV x.1 (difV x.1 x.2.1 c) c.2.2.1).2.2.1 != (makeV x.2.1 (difV x.1 x.2.1 c) c.2.2.1).2.2.1) else false) = y0 ∧ True)) else (false = false ∧ (false = y0 ∧ True)))) else (false = false ∧ (false = false ∧ (false = y0 ∧ True)))))))))))))))))
theorem cTopChecks_law (h : ∀ (x : PairT) (c : Ctr) (in_ : (List Int)), cTopChecks.A.wf (x, c, in_, ()) → ∀ (Λ1 : Prop) (Λ2 : Bool → Int → Prop), (cTopChecks_1 Λ1 Λ2 x c in_ true → Λ1) → (∀ (inside_2 : Bool) (i_2 : Int), cTopChecks_2 Λ1 Λ2 x c in_ true inside_2 i_2 → Λ2 inside_2 i_2) → cTopChecks_0 Λ1 Λ2 x c in_ true) : ConOK Go.Proofs.Try.prog 3 cTopChecks := by
  refine lawL (Γ := [(12, cBad_), (14, cBox_), (18, cDiffer_), (13, cExtremes), (7, cFirst_), (11, cKeeps_), (9, cLongL), (15, cMake_), (16, cPasses_), (8, cSameIntsR), (17, cTells_), (10, cWide)]) (Θ := Th) (n := 349) [([1, 1, 1, 1, 1, 1, 1, 1, 1, 1, 1, 2], ⟨[(2, false), (4, true), (7, false), (8, false), (18, true), (19, true)], [(4, false)]⟩), ([1, 1, 1, 1, 1, 1, 1, 1, 1, 1, 1, 1, 1, 1, 1, 1, 1, 1, 0, 1, 0], ⟨[(2, false), (4, true), (7, false), (8, false), (18, true), (19, true), (26, true), (29, true), (30, true)], [(4, false), (26, true)]⟩)] ⟨cBad__ok, cBox__ok, cDiffer__ok, cExtremes_ok, cFirst__ok, cKeeps__ok, cLongL_ok, cMake__ok, cPasses__ok, cSameIntsR_ok, cTells__ok, cWide_ok, trivial⟩ (by kernel_rfl) th_ok mix_ok Go.Proofs.Try.func3 (by kernel_rfl) ?_
  intro x hw hp Λ hC
  have h0 := h x.1 x.2.1 x.2.2.1 hw (Λ [1, 1, 1, 1, 1, 1, 1, 1, 1, 1, 1, 2] ([(2, .d false (.sl .int) x.2.2.1), (4, .ptr 4 0 []), (7, .d false (.sl tL) x.1.1), (8, .d false (.sl tL) x.1.2.1), (18, .d true .int (minE x.1.1 x.2.1)), (19, .d true .int (maxE x.1.1 x.2.1))], [(4, .box false tCt x.2.1)])) (fun inside_2 i_2 => Λ [1, 1, 1, 1, 1, 1, 1, 1, 1, 1, 1, 1, 1, 1, 1, 1, 1, 1, 0, 1, 0] ([(2, .d false (.sl .int) x.2.2.1), (4, .ptr 4 0 []), (7, .d false (.sl tL) x.1.1), (8, .d false (.sl tL) x.1.2.1), (18, .d true .int (minE x.1.1 x.2.1)), (19, .d true .int (maxE x.1.1 x.2.1)), (26, .ptr 26 0 []), (29, .d true .bool inside_2), (30, .d true .int i_2)], [(4, .box false tCt x.2.1), (26, .box true tTs (makeV x.1.1 x.2.2.1 x.2.1.2.2.1))])) (fun  hb => hC [1, 1, 1, 1, 1, 1, 1, 1, 1, 1, 1, 2] ([(2, .d false (.sl .int) x.2.2.1), (4, .ptr 4 0 []), (7, .d false (.sl tL) x.1.1), (8, .d false (.sl tL) x.1.2.1), (18, .d true .int (minE x.1.1 x.2.1)), (19, .d true .int (maxE x.1.1 x.2.1))], [(4, .box false tCt x.2.1)]) (Eq.mpr (by kernel_rfl) hb)) (fun inside_2 i_2 hb => hC [1, 1, 1, 1, 1, 1, 1, 1, 1, 1, 1, 1, 1, 1, 1, 1, 1, 1, 0, 1, 0] ([(2, .d false (.sl .int) x.2.2.1), (4, .ptr 4 0 []), (7, .d false (.sl tL) x.1.1), (8, .d false (.sl tL) x.1.2.1), (18, .d true .int (minE x.1.1 x.2.1)), (19, .d true .int (maxE x.1.1 x.2.1)), (26, .ptr 26 0 []), (29, .d true .bool inside_2), (30, .d true .int i_2)], [(4, .box false tCt x.2.1), (26, .box true tTs (makeV x.1.1 x.2.2.1 x.2.1.2.2.1))]) (Eq.mpr (by kernel_rfl) hb))
  exact Eq.mpr (by kernel_rfl) h0
theorem cTopChecks_ok : ConOK Go.Proofs.Try.prog 3 cTopChecks := by
  refine cTopChecks_law ?_
  intro x c in_ hw Λ1 Λ2 h1 h2
  unfold cTopChecks_0
  obtain ⟨p, q, ⟨⟩⟩ := x
  have k0 : cErr ([] : List Lin) ([(0 : Int), (0 : Int), (0 : Int), (0 : Int)], [(1 : Int), (0 : Int), (0 : Int), (2 : Int)], 3, 0, 1, ()) = 0 := by decide +kernel
  have k1 : firstB ([] : List Lin) ([(0 : Int), (0 : Int), (0 : Int), (0 : Int)], [(1 : Int), (0 : Int), (0 : Int), (2 : Int)], 3, 0, 1, ()) = true := by decide +kernel
  have k2 : firstV ([] : List Lin) ([(0 : Int), (0 : Int), (0 : Int), (0 : Int)], [(1 : Int), (0 : Int), (0 : Int), (2 : Int)], 3, 0, 1, ()) = [0, 0, 0, 2] := by decide +kernel
  by_cases c1 : 100 < p.length
  · simp [k0, k1, k2, c1]
  by_cases c2 : 100 < q.length
  · simp [k0, k1, k2, c1, c2]
  by_cases c3 : 100 < c.1.length ∨ 100 < c.2.1.length
  · simp [k0, k1, k2, c1, c2, c3]
  by_cases c4 : 100 < in_.length
  · have c4' : ¬ (in_.length : Int) ≤ 100 := by omega
    simp [k0, k1, k2, c1, c2, c3, c4, c4']
  by_cases e : cErr p c = 0
  · obtain ⟨g1, g2⟩ := cErr_ok e
    obtain ⟨hb, ho, hm⟩ := isCtr_box (validC_ok g2).1
    have l1 := validS_len hb.1
    have l2 := validS_len hb.2.1
    have hΛ : Λ1 := by
      apply h1; unfold cTopChecks_1
      by_cases m : makeErr p in_ c.2.2.1 = 0
      · obtain ⟨_, m2, m3, m4⟩ := make_ok m
        have ht := make_tst m
        have loop : ∀ b : Bool, (b = true → in_.length = c.1.length ∧ in_.length = c.2.1.length) → Λ2 b 0 := by
          intro b0 hb0
          refine upto (n := in_.length) (Q := fun i => ∀ b : Bool, (b = true → (in_.length = c.1.length ∧ in_.length = c.2.1.length) ∧ ∀ j, j < i → c.1.getD j 0 ≤ in_.getD j 0 ∧ in_.getD j 0 ≤ c.2.1.getD j 0) → Λ2 b (i : Int)) ?_ ?_ 0 (Nat.zero_le _) b0 (fun h => ⟨hb0 h, fun j hj => absurd hj (Nat.not_lt_zero _)⟩)
          · intro b hq
            apply h2; unfold cTopChecks_2
            rw [if_neg (by simp)]
            have hin : b = true → in_ ∈ statesC c := fun h => (stateC_iff hb).2 ⟨by have := (hq h).1; omega, fun i hi => (hq h).2 i (by have := (hq h).1; omega)⟩
            have hw : b = true → ¬ (makeV p in_ c.2.2.1).2.2.1 < minE p c ∧ ¬ (makeV p in_ c.2.2.1).2.2.1 > maxE p c := by
              intro h
              have := in_ext e (hin h)
              rw [m4]
              exact ⟨by show ¬ Rg (runS p in_) c.2.2.1 < minE p c; omega, by show ¬ Rg (runS p in_) c.2.2.1 > maxE p c; omega⟩
            by_cases e2 : cErr2 p q c = 0
            · obtain ⟨_, q1, _⟩ := cErr2_ok e2
              have t2 := errT2_of g1 q1 ht
              have hd : b = true → (tellV p q [makeV p in_ c.2.2.1]).length > 0 → difB p q c = true := by
                intro h hl
                unfold tellV at hl
                rw [show errT [p, q] [makeV p in_ c.2.2.1] = 0 from t2, if_pos rfl, tell_one] at hl
                have hne : endT p (makeV p in_ c.2.2.1) ≠ endT q (makeV p in_ c.2.2.1) := by
                  by_cases q : endT p (makeV p in_ c.2.2.1) ≠ endT q (makeV p in_ c.2.2.1)
                  · exact q
                  · rw [if_neg q] at hl; omega
                rw [m4] at hne
                have hmem : in_ ∈ difL p q c := by
                  unfold difL
                  rw [List.mem_filter]
                  exact ⟨hin h, decide_eq_true hne⟩
                unfold difB
                rw [e2]
                cases hq : difL p q c with
                | nil => rw [hq] at hmem; simp at hmem
                | cons a t => rfl
              have hD : difB p q c = true → makeErr p (difV p q c) c.2.2.1 = 0 ∧ makeErr q (difV p q c) c.2.2.1 = 0 ∧ (makeV p (difV p q c) c.2.2.1).2.2.1 ≠ (makeV q (difV p q c) c.2.2.1).2.2.1 := by
                intro h
                obtain ⟨_, d1, d2⟩ := dif_mem h
                have hv := stateC_valid hb d1
                have a1 := make_of g1 hv ho
                have a2 := make_of q1 hv ho
                refine ⟨a1, a2, ?_⟩
                rw [(make_ok a1).2.2.2, (make_ok a2).2.2.2]
                exact d2
              generalize makeV p in_ c.2.2.1 = mv at hw t2 hd ⊢
              generalize tellV p q [mv] = tl at hd ⊢
              generalize makeV p (difV p q c) c.2.2.1 = m1 at hD ⊢
              generalize makeV q (difV p q c) c.2.2.1 = m2 at hD ⊢
              generalize makeErr p (difV p q c) c.2.2.1 = r1 at hD ⊢
              generalize makeErr q (difV p q c) c.2.2.1 = r2 at hD ⊢
              generalize difB p q c = D at hd hD ⊢
              cases b
              · cases D
                · simp [e2, t2]
                · obtain ⟨d1, d2, d3⟩ := hD rfl
                  simp [e2, t2, d1, d2, d3]
              · obtain ⟨w1, w2⟩ := hw rfl
                by_cases hl : tl.length > 0
                · have hdd := hd rfl hl
                  subst hdd
                  obtain ⟨d1, d2, d3⟩ := hD rfl
                  simp [e2, t2, w1, w2, hl, d1, d2, d3]
                · cases D
                  · simp [e2, t2, w1, w2, hl]
                  · obtain ⟨d1, d2, d3⟩ := hD rfl
                    simp [e2, t2, w1, w2, hl, d1, d2, d3]
            · generalize makeV p in_ c.2.2.1 = mv at hw ⊢
              cases b
              · simp [e2]
              · obtain ⟨w1, w2⟩ := hw rfl
                simp [e2, w1, w2]
          · intro i hi ih b hq
            apply h2; unfold cTopChecks_2
            rw [if_pos (by simpa using hi), Int.toNat_natCast]
            refine ⟨trivial, ?_⟩
            cases b
            · rw [if_neg (by simp)]
              by_cases e2 : cErr2 p q c = 0
              · obtain ⟨_, q1, _⟩ := cErr2_ok e2
                have t2 := errT2_of g1 q1 ht
                have hD : difB p q c = true → makeErr p (difV p q c) c.2.2.1 = 0 ∧ makeErr q (difV p q c) c.2.2.1 = 0 ∧ (makeV p (difV p q c) c.2.2.1).2.2.1 ≠ (makeV q (difV p q c) c.2.2.1).2.2.1 := by
                  intro h
                  obtain ⟨_, d1, d2⟩ := dif_mem h
                  have hv := stateC_valid hb d1
                  have a1 := make_of g1 hv ho
                  have a2 := make_of q1 hv ho
                  refine ⟨a1, a2, ?_⟩
                  rw [(make_ok a1).2.2.2, (make_ok a2).2.2.2]
                  exact d2
                generalize makeV p in_ c.2.2.1 = mv at t2 ⊢
                generalize makeV p (difV p q c) c.2.2.1 = m1 at hD ⊢
                generalize makeV q (difV p q c) c.2.2.1 = m2 at hD ⊢
                generalize makeErr p (difV p q c) c.2.2.1 = r1 at hD ⊢
                generalize makeErr q (difV p q c) c.2.2.1 = r2 at hD ⊢
                generalize difB p q c = D at hD ⊢
                cases D
                · simp [e2, t2]
                · obtain ⟨d1, d2, d3⟩ := hD rfl
                  simp [e2, t2, d1, d2, d3]
              · simp [e2]
            · rw [if_pos (by rfl)]
              obtain ⟨⟨a1, a2⟩, a3⟩ := hq rfl
              refine ⟨idx_nat hi, idx_nat (by omega), ?_⟩
              by_cases u : in_.getD i 0 ≥ c.1.getD i 0
              · rw [if_pos (decide_eq_true u)]
                refine ⟨idx_nat hi, idx_nat (by omega), trivial, inI_succ hi (by omega), ih _ fun h => ⟨⟨a1, a2⟩, fun j hj => ?_⟩⟩
                have h' : in_.getD i 0 ≤ c.2.1.getD i 0 := of_decide_eq_true h
                by_cases q : j = i
                · subst q; exact ⟨u, h'⟩
                · exact a3 j (by omega)
              · rw [if_neg (by rw [decide_eq_true_eq]; exact u)]
                exact ⟨rfl, inI_succ hi (by omega), ih false (fun h => by cases h)⟩
        have m5 := errT1_of g1 ht
        have m6 := pass_make m
        have m7 := errT2_of g1 g1 ht
        have m8 := tell_self (p := p) (t := makeV p in_ c.2.2.1)
        generalize makeV p in_ c.2.2.1 = mv at m5 m6 m7 m8 ⊢
        rw [m, m5, m6, m7, m8]
        by_cases a1 : in_.length = c.1.length
        · rw [if_pos (show (((in_.length : Int)) == (c.1.length : Int)) = true by rw [a1]; simp)]
          have := loop ((in_.length : Int) == (c.2.1.length : Int)) (fun h => ⟨a1, by have := eq_of_beq h; omega⟩)
          simp [this]
        · rw [if_neg (show ¬ (((in_.length : Int)) == (c.1.length : Int)) = true by simp; omega)]
          have := loop false (fun h => by cases h)
          simp [this]
      · simp [m]
    obtain ⟨f1, f2, f3, f4⟩ := keep_facts e
    have f5 := @first_facts p c
    generalize makeV p (firstV p c) c.2.2.1 = mv at f5 ⊢
    generalize makeErr p (firstV p c) c.2.2.1 = me at f5 ⊢
    generalize errT1 p (mv.1, mv.2.1, c.2.2.2.1, ()) = et at f5 ⊢
    generalize passV p (mv.1, mv.2.1, c.2.2.2.1, ()) = pv at f5 ⊢
    generalize keepB p c = K at f1 f2 f3 ⊢
    generalize firstB p c = B at f2 f5 ⊢
    generalize badN p c = N at f1 f4 ⊢
    generalize sizeV c = S at f4 ⊢
    generalize minE p c = mi at f3 ⊢
    generalize maxE p c = ma at f3 ⊢
    have f4' : ¬ S < N := by omega
    cases B
    · have : K = true := f2
      subst this
      have n0 : N = 0 := by simpa using f1.symm
      subst n0
      have f3' := f3.symm
      rw [Bool.and_eq_true, decide_eq_true_eq, decide_eq_true_eq] at f3'
      simp [k0, k1, k2, c1, c2, c3, c4, e, g2, f3'.1, f3'.2, f4', hΛ]
    · have : K = false := f2
      subst this
      have n0 : ¬ N = 0 := by simpa using f1.symm
      obtain ⟨r1, r2, r3, r4⟩ := f5 rfl
      subst r1; subst r3; subst r4
      by_cases a : c.2.2.2.1 ≤ mi
      · have b : ¬ ma ≤ c.2.2.2.2.1 := by
          intro q
          rw [decide_eq_true a, decide_eq_true q] at f3; cases f3
        by_cases u : c.2.2.2.1 ≤ mv.2.2.1
        · have u2 : ¬ mv.2.2.1 ≤ c.2.2.2.2.1 := fun q => r2 ⟨u, q⟩
          simp [k0, k1, k2, c1, c2, c3, c4, e, g2, n0, a, b, f4', u, u2, hΛ]
        · simp [k0, k1, k2, c1, c2, c3, c4, e, g2, n0, a, b, f4', u, hΛ]
      · by_cases u : c.2.2.2.1 ≤ mv.2.2.1
        · have u2 : ¬ mv.2.2.1 ≤ c.2.2.2.2.1 := fun q => r2 ⟨u, q⟩
          simp [k0, k1, k2, c1, c2, c3, c4, e, g2, n0, a, f4', u, u2, hΛ]
        · simp [k0, k1, k2, c1, c2, c3, c4, e, g2, n0, a, f4', u, hΛ]
  · simp [k0, k1, k2, c1, c2, c3, c4, e]
end Go.Tk
