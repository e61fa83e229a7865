/- What spans prove of a contract (layer 6 with layer 2). -/
import Derived.Test.YtookhknbjofmkaaC6s
import Derived.Test.YtookhknbjofmkaaL6b
import Derived.Test.YtookhknbjofmkaaC2x
set_option linter.unusedSimpArgs false
set_option linter.unusedVariables false
namespace Go.Tk
open Go Go.RowKit

def proveB (p : List Lin) (c : Ctr) (b : List Rng) : Bool := decide (c.2.2.2.1 ≤ (Rd (afterB p b) c.2.2.1).1) && decide ((Rd (afterB p b) c.2.2.1).2.1 ≤ c.2.2.2.2.1)
def boxCt (c : Ctr) : List Rng := boxOf c.1 c.2.1
def fixB (c : Ctr) (r n : Int) : List Rng := (boxCt c).set r.toNat (n, n, ())
def eachB (p : List Lin) (c : Ctr) (r : Int) : Bool := (exts (c.1.getD r.toNat 0) (c.2.1.getD r.toNat 0 - c.1.getD r.toNat 0 + 1).toNat).all fun n => proveB p c (fixB c r n)
def eachE (p : List Lin) (c : Ctr) (r : Int) : Int := if cErr p c = 0 then argErr (isReg r) else cErr p c
def verdV (p : List Lin) (c : Ctr) : Int := if cErr p c = 0 then (if (badL p c).isEmpty then (if proveB p c (boxCt c) then 1 else 0) else -1) else 0
def lossV (p : List Lin) (c : Ctr) : Int := if cErr p c = 0 then (Rd (afterB p (boxCt c)) c.2.2.1).2.1 - (Rd (afterB p (boxCt c)) c.2.2.1).1 - (maxE p c - minE p c) else 0

theorem boxCt_get {c : Ctr} (h : boxC c) {i : Nat} (hi : i < 4) : (boxCt c).getD i tR.dflt = (c.1.getD i 0, c.2.1.getD i 0, ()) := by
  have l1 := validS_len h.1
  have l2 := validS_len h.2.1
  exact getD_zip _ 0 0 _ (by omega) (by omega)
theorem end_Rd {p : List Lin} (hp : validP p = 0) {b : List Rng} (hb : validB b = true) {s : List Int} (hs : validS s = true) (h : leBox (boxOf s s) b) {o : Int} (h0 : 0 ≤ o) (h1 : o ≤ 3) :
    (Rd (afterB p b) o).1 ≤ Rg (runS p s) o ∧ Rg (runS p s) o ≤ (Rd (afterB p b) o).2.1 := by
  have hall := (validP_ok hp).2
  have hr := runS_ok (p := p) hs
  have e := (point_le (afterB_ok hall hb) hr).1 (end_in hall hb hs ((point_le hb hs).2 h))
  have := leBox_Rd e o
  rw [point_Rd (validS_len hr) h0 h1] at this
  exact this
theorem state_le {c : Ctr} (h : boxC c) {s : List Int} (hs : s ∈ statesC c) : leBox (boxOf s s) (boxCt c) := by
  refine (point_le (boxOf_valid h) (stateC_valid h hs)).1 ?_
  obtain ⟨h1, h2⟩ := (stateC_iff h).1 hs
  have h4 := validB_len (boxOf_valid h)
  rw [hasB_iff (by rw [h4, h1])]
  intro i hi
  rw [h4] at hi
  have := boxCt_get h hi
  unfold boxCt at this
  rw [this]
  exact h2 i hi
theorem fix_valid {c : Ctr} (h : boxC c) {r n : Int} (h0 : 0 ≤ r) (h1 : r ≤ 3) (g0 : c.1.getD r.toNat 0 ≤ n) (g1 : n ≤ c.2.1.getD r.toNat 0) : validB (fixB c r n) = true := by
  have w := boxC_wid h (i := r.toNat) (by omega)
  exact validB_set (boxOf_valid h) (by rw [isRange_iff]; exact ⟨by show -999 ≤ n; omega, by show n ≤ n; omega, by show n ≤ 999; omega⟩)
theorem fix_le {c : Ctr} (h : boxC c) {r n : Int} (h0 : 0 ≤ r) (h1 : r ≤ 3) (g0 : c.1.getD r.toNat 0 ≤ n) (g1 : n ≤ c.2.1.getD r.toNat 0) : leBox (fixB c r n) (boxCt c) := by
  have h4 : (boxCt c).length = 4 := validB_len (boxOf_valid h)
  intro i
  unfold fixB
  rw [getD_set tR.dflt (by omega) i]
  by_cases e : r.toNat = i
  · subst e
    rw [if_pos rfl, boxCt_get h (by omega)]
    exact ⟨g0, g1⟩
  · rw [if_neg e]; exact ⟨Int.le_refl _, Int.le_refl _⟩
theorem state_fix {c : Ctr} (h : boxC c) {r : Int} (h0 : 0 ≤ r) (h1 : r ≤ 3) {s : List Int} (hs : s ∈ statesC c) : leBox (boxOf s s) (fixB c r (s.getD r.toNat 0)) := by
  have h4 : (boxCt c).length = 4 := validB_len (boxOf_valid h)
  have hl := state_le h hs
  obtain ⟨q1, q2⟩ := (stateC_iff h).1 hs
  intro i
  unfold fixB
  rw [getD_set tR.dflt (by omega) i]
  by_cases e : r.toNat = i
  · subst e
    rw [if_pos rfl]
    have : (boxOf s s).getD r.toNat tR.dflt = (s.getD r.toNat 0, s.getD r.toNat 0, ()) := getD_zip _ 0 0 _ (by omega) (by omega)
    rw [this]
    exact ⟨Int.le_refl _, Int.le_refl _⟩
  · rw [if_neg e]; exact hl i
theorem proveB_mono {p : List Lin} (hp : validP p = 0) {c : Ctr} {a b : List Rng} (ha : validB a = true) (hb : validB b = true) (h : leBox a b) (g : proveB p c b = true) : proveB p c a = true := by
  have hall := (validP_ok hp).2
  have m := (leBox_iff (afterB_ok hall ha) (afterB_ok hall hb)).1 (after_mono hall ha hb ((leBox_iff ha hb).2 h))
  have := leBox_Rd m c.2.2.1
  unfold proveB at g ⊢
  simp only [Bool.and_eq_true, decide_eq_true_eq] at g ⊢
  omega
theorem proveB_keep {p : List Lin} (hp : validP p = 0) {c : Ctr} (ho : 0 ≤ c.2.2.1 ∧ c.2.2.1 ≤ 3) {b : List Rng} (hb : validB b = true) (g : proveB p c b = true) {s : List Int} (hs : validS s = true) (h : leBox (boxOf s s) b) : keepS p c s = true := by
  have e := end_Rd hp hb hs h ho.1 ho.2
  unfold proveB at g
  simp only [Bool.and_eq_true, decide_eq_true_eq] at g
  unfold keepS
  exact within_iff.2 ⟨by omega, by omega⟩
theorem bad_nil {p : List Lin} {c : Ctr} (h : ∀ s ∈ statesC c, keepS p c s = true) : badL p c = [] := by
  unfold badL
  rw [List.filter_eq_nil_iff]
  intro s hs
  rw [h s hs]; simp
theorem prove_keeps {p : List Lin} {c : Ctr} (e : cErr p c = 0) (g : proveB p c (boxCt c) = true) : badL p c = [] := by
  obtain ⟨g1, g2⟩ := cErr_ok e
  obtain ⟨hb, ho, _⟩ := isCtr_box (validC_ok g2).1
  exact bad_nil fun s hs => proveB_keep g1 ho (boxOf_valid hb) g (stateC_valid hb hs) (state_le hb hs)
theorem prove_each {p : List Lin} {c : Ctr} (e : cErr p c = 0) {r : Int} (h0 : 0 ≤ r) (h1 : r ≤ 3) (g : proveB p c (boxCt c) = true) : eachB p c r = true := by
  obtain ⟨g1, g2⟩ := cErr_ok e
  obtain ⟨hb, ho, _⟩ := isCtr_box (validC_ok g2).1
  have w := boxC_wid hb (i := r.toNat) (by omega)
  unfold eachB
  rw [List.all_eq_true]
  intro n hn
  have := (exts_mem _ _ _).1 hn
  exact proveB_mono g1 (fix_valid hb h0 h1 (by omega) (by omega)) (boxOf_valid hb) (fix_le hb h0 h1 (by omega) (by omega)) g
theorem each_keeps {p : List Lin} {c : Ctr} (e : cErr p c = 0) {r : Int} (h0 : 0 ≤ r) (h1 : r ≤ 3) (g : eachB p c r = true) : badL p c = [] := by
  obtain ⟨g1, g2⟩ := cErr_ok e
  obtain ⟨hb, ho, _⟩ := isCtr_box (validC_ok g2).1
  unfold eachB at g
  rw [List.all_eq_true] at g
  refine bad_nil fun s hs => ?_
  have q := ((stateC_iff hb).1 hs).2 r.toNat (by omega)
  exact proveB_keep g1 ho (fix_valid hb h0 h1 q.1 q.2) (g _ ((exts_mem _ _ _).2 ⟨q.1, by omega⟩)) (stateC_valid hb hs) (state_fix hb h0 h1 hs)
theorem ext_in {p : List Lin} {c : Ctr} (e : cErr p c = 0) : (Rd (afterB p (boxCt c)) c.2.2.1).1 ≤ minE p c ∧ minE p c ≤ 999 ∧ -999 ≤ maxE p c ∧ maxE p c ≤ (Rd (afterB p (boxCt c)) c.2.2.1).2.1 ∧ minE p c ≤ maxE p c := by
  obtain ⟨g1, g2⟩ := cErr_ok e
  obtain ⟨hb, ho, _⟩ := isCtr_box (validC_ok g2).1
  have hv := validB_get (afterB_ok (validP_ok g1).2 (boxOf_valid hb)) ho.1 ho.2
  have q := fun s (hs : s ∈ statesC c) => end_Rd (p := p) g1 (boxOf_valid hb) (stateC_valid hb hs) (state_le hb hs) ho.1 ho.2
  have hm := min_le_max e
  unfold minE maxE at *
  rw [if_pos e, if_pos e] at *
  refine ⟨(fold_min_le _ _ _ _).2 ⟨by unfold boxCt; omega, fun s hs => (q s hs).1⟩, ((fold_min_le (fun s => Rg (runS p s) c.2.2.1) _ _ _).1 (Int.le_refl _)).1, ((fold_le_max (fun s => Rg (runS p s) c.2.2.1) _ _ _).1 (Int.le_refl _)).1, (fold_le_max _ _ _ _).2 ⟨by unfold boxCt; omega, fun s hs => (q s hs).2⟩, hm⟩

abbrev cContracted6 : Con := { A := (.cons (.sl tL) (.cons tCt .nil)), R := (.cons .int .nil), pre := fun x => True, F := fun x => (cErr x.1 x.2.1, ()) }
def cContracted6_0  (p : (List Lin)) (c : Ctr) (y0 : Int) : Prop :=
  True ∧ (if ((validP p) != (0 : Int)) = true then ((validP p) = y0 ∧ True) else (True ∧ ((validC c) = y0 ∧ True)))
theorem cContracted6_law (h : ∀ (p : (List Lin)) (c : Ctr), cContracted6.A.wf (p, c, ()) → cContracted6_0  p c (cErr p c)) : ConOK Go.Proofs.Try.prog 79 cContracted6 := by
  refine lawL (Γ := [(66, cValC), (68, cValP)]) (Θ := Th) (n := 13) [] ⟨cValC_ok, cValP_ok, trivial⟩ (by kernel_rfl) th_ok mix_ok Go.Proofs.Try.func79 (by kernel_rfl) ?_
  intro x hw hp Λ hC
  have h0 := h x.1 x.2.1 hw  
  exact Eq.mpr (by kernel_rfl) h0
theorem cContracted6_ok : ConOK Go.Proofs.Try.prog 79 cContracted6 := by
  refine cContracted6_law ?_
  intro p c hw
  unfold cContracted6_0
  refine ⟨trivial, ?_⟩
  unfold cErr
  by_cases g : validP p = 0
  · rw [if_neg (by simpa using g), if_pos g]
    exact ⟨trivial, rfl, trivial⟩
  · rw [if_pos (by simpa using g), if_neg g]
    exact ⟨rfl, trivial⟩
abbrev cProves0 : Con := { A := (.cons (.sl tL) (.cons tCt (.cons (.sl tR) .nil))), R := (.cons .bool .nil), pre := fun x => validP x.1 = 0 ∧ validB x.2.2.1 = true ∧ 0 ≤ x.2.1.2.2.1 ∧ x.2.1.2.2.1 ≤ 3, F := fun x => (proveB x.1 x.2.1 x.2.2.1, ()) }
def cProves0_0  (p : (List Lin)) (c : Ctr) (b : (List Rng)) (y0 : Bool) : Prop :=
  (validP p = 0 ∧ validB b = true) ∧ (idx c.2.2.1 (List.length ((List.getD (spans p b) p.length tSpot.dflt).2.1) : Int) ∧ (if (decide (c.2.2.2.1 ≤ (List.getD ((List.getD (spans p b) p.length tSpot.dflt).2.1) (Int.toNat c.2.2.1) tR.dflt).1)) = true then (True ∧ ((bif true then (decide ((List.getD ((List.getD (spans p b) p.length tSpot.dflt).2.1) (Int.toNat c.2.2.1) tR.dflt).2.1 ≤ c.2.2.2.2.1)) else false) = y0 ∧ True)) else (false = false ∧ (false = y0 ∧ True))))
theorem cProves0_law (h : ∀ (p : (List Lin)) (c : Ctr) (b : (List Rng)), cProves0.A.wf (p, c, b, ()) → (validP p = 0 ∧ validB b = true ∧ 0 ≤ c.2.2.1 ∧ c.2.2.1 ≤ 3) → cProves0_0  p c b (proveB p c b)) : ConOK Go.Proofs.Try.prog 80 cProves0 := by
  refine lawL (Γ := [(82, cAfter0)]) (Θ := Th) (n := 27) [] ⟨cAfter0_ok, trivial⟩ (by kernel_rfl) th_ok mix_ok Go.Proofs.Try.func80 (by kernel_rfl) ?_
  intro x hw hp Λ hC
  have h0 := h x.1 x.2.1 x.2.2.1 hw hp  
  exact Eq.mpr (by kernel_rfl) h0
theorem cProves0_ok : ConOK Go.Proofs.Try.prog 80 cProves0 := by
  refine cProves0_law ?_
  intro p c b hw hp
  unfold cProves0_0
  obtain ⟨p1, p2, p3, p4⟩ := hp
  have hv := afterB_ok (validP_ok p1).2 p2
  have h4 := validB_len hv
  have hi : idx c.2.2.1 ((afterB p b).length : Int) := ⟨p3, by omega⟩
  refine ⟨⟨p1, p2⟩, hi, ?_⟩
  show if _ then _ else _
  by_cases g : c.2.2.2.1 ≤ (Rd (afterB p b) c.2.2.1).1
  · rw [if_pos (by refine decide_eq_true ?_; exact g)]
    refine ⟨trivial, ?_, trivial⟩
    unfold proveB
    rw [decide_eq_true g]; rfl
  · rw [if_neg (by rw [decide_eq_true_eq]; exact g)]
    refine ⟨rfl, ?_, trivial⟩
    unfold proveB
    rw [decide_eq_false g]; rfl
abbrev cProves : Con := { A := (.cons (.sl tL) (.cons tCt .nil)), R := (.cons .bool (.cons .int .nil)), pre := fun x => True, F := fun x => ((cErr x.1 x.2.1 == 0 && proveB x.1 x.2.1 (boxCt x.2.1)), cErr x.1 x.2.1, ()) }
def cProves_0  (p : (List Lin)) (c : Ctr) (y0 : Bool) (y1 : Int) : Prop :=
  True ∧ (if ((cErr p c) != (0 : Int)) = true then (false = y0 ∧ (cErr p c) = y1 ∧ True) else ((c.1.length ≤ c.2.1.length ∧ c.1.length ≤ 1000) ∧ ((validP p = 0 ∧ validB (boxOf c.1 c.2.1) = true ∧ 0 ≤ c.2.2.1 ∧ c.2.2.1 ≤ 3) ∧ ((proveB p c (boxOf c.1 c.2.1)) = y0 ∧ (0 : Int) = y1 ∧ True))))
theorem cProves_law (h : ∀ (p : (List Lin)) (c : Ctr), cProves.A.wf (p, c, ()) → cProves_0  p c (cErr p c == 0 && proveB p c (boxCt c)) (cErr p c)) : ConOK Go.Proofs.Try.prog 20 cProves := by
  refine lawL (Γ := [(79, cContracted6), (81, cOf0), (80, cProves0)]) (Θ := Th) (n := 21) [] ⟨cContracted6_ok, cOf0_ok, cProves0_ok, trivial⟩ (by kernel_rfl) th_ok mix_ok Go.Proofs.Try.func20 (by kernel_rfl) ?_
  intro x hw hp Λ hC
  have h0 := h x.1 x.2.1 hw  
  exact Eq.mpr (by kernel_rfl) h0
theorem cProves_ok : ConOK Go.Proofs.Try.prog 20 cProves := by
  refine cProves_law ?_
  intro p c hw
  unfold cProves_0
  refine ⟨trivial, ?_⟩
  by_cases g : cErr p c = 0
  · rw [if_neg (by simp [g])]
    obtain ⟨g1, g2⟩ := cErr_ok g
    obtain ⟨hb, ho, _⟩ := isCtr_box (validC_ok g2).1
    have l1 := validS_len hb.1
    have l2 := validS_len hb.2.1
    refine ⟨⟨by omega, by omega⟩, ⟨g1, boxOf_valid hb, ho.1, ho.2⟩, ?_, g.symm, trivial⟩
    rw [g]; rfl
  · rw [if_pos (by simpa using g)]
    refine ⟨?_, rfl, trivial⟩
    rw [show (cErr p c == 0) = false by simpa using g]; rfl
abbrev cEach : Con := { A := (.cons (.sl tL) (.cons tCt (.cons .int .nil))), R := (.cons .bool (.cons .int .nil)), pre := fun x => True, F := fun x => ((eachE x.1 x.2.1 x.2.2.1 == 0 && eachB x.1 x.2.1 x.2.2.1), eachE x.1 x.2.1 x.2.2.1, ()) }
def cEach_0 (Λ1 : Int → Prop) (p : (List Lin)) (c : Ctr) (register : Int) (y0 : Bool) (y1 : Int) : Prop :=
  True ∧ (if ((cErr p c) != (0 : Int)) = true then (false = y0 ∧ (cErr p c) = y1 ∧ True) else (True ∧ (if (!(within register (0 : Int) (3 : Int))) = true then (false = y0 ∧ (1 : Int) = y1 ∧ True) else (idx register (List.length c.1 : Int) ∧ Λ1 (List.getD c.1 (Int.toNat register) 0)))))
def cEach_1 (Λ1 : Int → Prop) (p : (List Lin)) (c : Ctr) (register : Int) (y0 : Bool) (y1 : Int)  (n_1 : Int) : Prop :=
  idx register (List.length c.2.1 : Int) ∧ (if (decide (n_1 ≤ (List.getD c.2.1 (Int.toNat register) 0))) = true then ((c.1.length ≤ c.2.1.length ∧ c.1.length ≤ 1000) ∧ (idx register (List.length (boxOf c.1 c.2.1) : Int) ∧ ((validP p = 0 ∧ validB (List.set (boxOf c.1 c.2.1) (Int.toNat register) (n_1, n_1, ())) = true ∧ 0 ≤ c.2.2.1 ∧ c.2.2.1 ≤ 3) ∧ (if (!(proveB p c (List.set (boxOf c.1 c.2.1) (Int.toNat register) (n_1, n_1, ())))) = true then (false = y0 ∧ (0 : Int) = y1 ∧ True) else (inI (n_1 + (1 : Int)) ∧ Λ1 (n_1 + (1 : Int))))))) else (true = y0 ∧ (0 : Int) = y1 ∧ True))
theorem cEach_law (h : ∀ (p : (List Lin)) (c : Ctr) (register : Int), cEach.A.wf (p, c, register, ()) → ∀ (Λ1 : Int → Prop), (∀ (n_1 : Int), cEach_1 Λ1 p c register (eachE p c register == 0 && eachB p c register) (eachE p c register) n_1 → Λ1 n_1) → cEach_0 Λ1 p c register (eachE p c register == 0 && eachB p c register) (eachE p c register)) : ConOK Go.Proofs.Try.prog 30 cEach := by
  refine lawL (Γ := [(79, cContracted6), (81, cOf0), (80, cProves0), (93, cWithin6)]) (Θ := Th) (n := 50) [([1, 1, 1, 0, 1, 0], ⟨[(0, false), (2, false), (4, true), (9, false)], [(4, false)]⟩)] ⟨cContracted6_ok, cOf0_ok, cProves0_ok, cWithin6_ok, trivial⟩ (by kernel_rfl) th_ok mix_ok Go.Proofs.Try.func30 (by kernel_rfl) ?_
  intro x hw hp Λ hC
  have h0 := h x.1 x.2.1 x.2.2.1 hw (fun n_1 => Λ [1, 1, 1, 0, 1, 0] ([(0, .d false (.sl tL) x.1), (2, .d false .int x.2.2.1), (4, .ptr 4 0 []), (9, .d false .int n_1)], [(4, .box false tCt x.2.1)])) (fun n_1 hb => hC [1, 1, 1, 0, 1, 0] ([(0, .d false (.sl tL) x.1), (2, .d false .int x.2.2.1), (4, .ptr 4 0 []), (9, .d false .int n_1)], [(4, .box false tCt x.2.1)]) (Eq.mpr (by kernel_rfl) hb))
  exact Eq.mpr (by kernel_rfl) h0
theorem cEach_ok : ConOK Go.Proofs.Try.prog 30 cEach := by
  refine cEach_law ?_
  intro p c register hw Λ1 h1
  unfold cEach_0
  refine ⟨trivial, ?_⟩
  by_cases g : cErr p c = 0
  · rw [if_neg (by simp [g])]
    obtain ⟨g1, g2⟩ := cErr_ok g
    obtain ⟨hb, ho, _⟩ := isCtr_box (validC_ok g2).1
    have l1 := validS_len hb.1
    have l2 := validS_len hb.2.1
    refine ⟨trivial, ?_⟩
    show if (!(isReg register)) = true then _ else _
    cases hr : isReg register
    · have e : eachE p c register = 1 := by unfold eachE; rw [if_pos g, hr]; rfl
      rw [if_pos (by rfl), e]
      exact ⟨rfl, rfl, trivial⟩
    · have e : eachE p c register = 0 := by unfold eachE; rw [if_pos g, hr]; rfl
      rw [if_neg (by simp)]
      have rr := within_iff.1 (show within register 0 3 = true from hr)
      refine ⟨⟨rr.1, by omega⟩, ?_⟩
      rw [e] at h1
      have w := boxC_wid hb (i := register.toNat) (by omega)
      have hlb : (boxOf c.1 c.2.1).length = 4 := validB_len (boxOf_valid hb)
      have key : ∀ (d : Nat) (n : Int), c.1.getD register.toNat 0 ≤ n → n + d = c.2.1.getD register.toNat 0 + 1 → eachB p c register = ((exts n d).all fun n => proveB p c (fixB c register n)) → Λ1 n := by
        intro d
        induction d with
        | zero =>
          intro n hn hd he
          apply h1; unfold cEach_1
          refine ⟨⟨rr.1, by omega⟩, ?_⟩
          rw [if_neg (by rw [decide_eq_true_eq]; omega)]
          refine ⟨?_, rfl, trivial⟩
          rw [he]; rfl
        | succ d ih =>
          intro n hn hd he
          apply h1; unfold cEach_1
          refine ⟨⟨rr.1, by omega⟩, ?_⟩
          rw [if_pos (by rw [decide_eq_true_eq]; omega)]
          refine ⟨⟨by omega, by omega⟩, ⟨rr.1, by omega⟩, ⟨g1, validB_set (boxOf_valid hb) (by rw [isRange_iff]; exact ⟨by show -999 ≤ n; omega, by show n ≤ n; omega, by show n ≤ 999; omega⟩), ho.1, ho.2⟩, ?_⟩
          have e2 : eachB p c register = (proveB p c (List.set (boxOf c.1 c.2.1) register.toNat (n, n, ())) && (exts (n + 1) d).all fun n => proveB p c (fixB c register n)) := he
          cases hp' : proveB p c (List.set (boxOf c.1 c.2.1) register.toNat (n, n, ()))
          · rw [if_pos (by rfl)]
            rw [hp'] at e2
            exact ⟨by rw [e2]; rfl, rfl, trivial⟩
          · rw [if_neg (by simp)]
            rw [hp'] at e2
            exact ⟨by unfold inI; omega, ih (n + 1) (by omega) (by omega) (by rw [e2]; rfl)⟩
      exact key _ _ (Int.le_refl _) (by omega) rfl
  · rw [if_pos (by simpa using g)]
    have e : eachE p c register = cErr p c := by unfold eachE; rw [if_neg g]
    rw [e, show (cErr p c == 0) = false by simpa using g]
    exact ⟨rfl, rfl, trivial⟩
abbrev cVerdict : Con := { A := (.cons (.sl tL) (.cons tCt .nil)), R := (.cons .int (.cons .int .nil)), pre := fun x => True, F := fun x => (verdV x.1 x.2.1, cErr x.1 x.2.1, ()) }
def cVerdict_0  (p : (List Lin)) (c : Ctr) (y0 : Int) (y1 : Int) : Prop :=
  True ∧ (if ((cErr p c) != (0 : Int)) = true then ((0 : Int) = y0 ∧ (cErr p c) = y1 ∧ True) else (if (!((cErr p c == 0 && (badL p c).isEmpty))) = true then ((-1 : Int) = y0 ∧ (0 : Int) = y1 ∧ True) else ((c.1.length ≤ c.2.1.length ∧ c.1.length ≤ 1000) ∧ ((validP p = 0 ∧ validB (boxOf c.1 c.2.1) = true ∧ 0 ≤ c.2.2.1 ∧ c.2.2.1 ≤ 3) ∧ (if (proveB p c (boxOf c.1 c.2.1)) = true then ((1 : Int) = y0 ∧ (0 : Int) = y1 ∧ True) else ((0 : Int) = y0 ∧ (0 : Int) = y1 ∧ True))))))
theorem cVerdict_law (h : ∀ (p : (List Lin)) (c : Ctr), cVerdict.A.wf (p, c, ()) → cVerdict_0  p c (verdV p c) (cErr p c)) : ConOK Go.Proofs.Try.prog 22 cVerdict := by
  refine lawL (Γ := [(11, cKeeps), (81, cOf0), (80, cProves0)]) (Θ := Th) (n := 30) [] ⟨cKeeps_ok, cOf0_ok, cProves0_ok, trivial⟩ (by kernel_rfl) th_ok mix_ok Go.Proofs.Try.func22 (by kernel_rfl) ?_
  intro x hw hp Λ hC
  have h0 := h x.1 x.2.1 hw  
  exact Eq.mpr (by kernel_rfl) h0
theorem cVerdict_ok : ConOK Go.Proofs.Try.prog 22 cVerdict := by
  refine cVerdict_law ?_
  intro p c hw
  unfold cVerdict_0
  refine ⟨trivial, ?_⟩
  unfold verdV
  by_cases g : cErr p c = 0
  · rw [if_neg (by simp [g]), if_pos g]
    obtain ⟨g1, g2⟩ := cErr_ok g
    obtain ⟨hb, ho, _⟩ := isCtr_box (validC_ok g2).1
    have l1 := validS_len hb.1
    have l2 := validS_len hb.2.1
    cases hk : (badL p c).isEmpty
    · rw [if_pos (by simp [g])]
      exact ⟨rfl, g.symm, trivial⟩
    · rw [if_neg (by simp [g])]
      refine ⟨⟨by omega, by omega⟩, ⟨g1, boxOf_valid hb, ho.1, ho.2⟩, ?_⟩
      show if proveB p c (boxCt c) = true then _ else _
      cases proveB p c (boxCt c)
      · exact ⟨rfl, g.symm, trivial⟩
      · exact ⟨rfl, g.symm, trivial⟩
  · rw [if_pos (by simpa using g), if_neg g]
    exact ⟨rfl, rfl, trivial⟩
abbrev cLoss : Con := { A := (.cons (.sl tL) (.cons tCt .nil)), R := (.cons .int (.cons .int .nil)), pre := fun x => True, F := fun x => (lossV x.1 x.2.1, cErr x.1 x.2.1, ()) }
def cLoss_0  (p : (List Lin)) (c : Ctr) (y0 : Int) (y1 : Int) : Prop :=
  True ∧ (if ((cErr p c) != (0 : Int)) = true then ((0 : Int) = y0 ∧ (cErr p c) = y1 ∧ True) else ((c.1.length ≤ c.2.1.length ∧ c.1.length ≤ 1000) ∧ ((validP p = 0 ∧ validB (boxOf c.1 c.2.1) = true) ∧ (idx c.2.2.1 (List.length ((List.getD (spans p (boxOf c.1 c.2.1)) p.length tSpot.dflt).2.1) : Int) ∧ (inI ((List.getD ((List.getD (spans p (boxOf c.1 c.2.1)) p.length tSpot.dflt).2.1) (Int.toNat c.2.2.1) tR.dflt).2.1 - (List.getD ((List.getD (spans p (boxOf c.1 c.2.1)) p.length tSpot.dflt).2.1) (Int.toNat c.2.2.1) tR.dflt).1) ∧ (inI ((maxE p c) - (minE p c)) ∧ (inI (((List.getD ((List.getD (spans p (boxOf c.1 c.2.1)) p.length tSpot.dflt).2.1) (Int.toNat c.2.2.1) tR.dflt).2.1 - (List.getD ((List.getD (spans p (boxOf c.1 c.2.1)) p.length tSpot.dflt).2.1) (Int.toNat c.2.2.1) tR.dflt).1) - ((maxE p c) - (minE p c))) ∧ ((((List.getD ((List.getD (spans p (boxOf c.1 c.2.1)) p.length tSpot.dflt).2.1) (Int.toNat c.2.2.1) tR.dflt).2.1 - (List.getD ((List.getD (spans p (boxOf c.1 c.2.1)) p.length tSpot.dflt).2.1) (Int.toNat c.2.2.1) tR.dflt).1) - ((maxE p c) - (minE p c))) = y0 ∧ (0 : Int) = y1 ∧ True))))))))
theorem cLoss_law (h : ∀ (p : (List Lin)) (c : Ctr), cLoss.A.wf (p, c, ()) → cLoss_0  p c (lossV p c) (cErr p c)) : ConOK Go.Proofs.Try.prog 23 cLoss := by
  refine lawL (Γ := [(82, cAfter0), (13, cExtremes), (81, cOf0)]) (Θ := Th) (n := 40) [] ⟨cAfter0_ok, cExtremes_ok, cOf0_ok, trivial⟩ (by kernel_rfl) th_ok mix_ok Go.Proofs.Try.func23 (by kernel_rfl) ?_
  intro x hw hp Λ hC
  have h0 := h x.1 x.2.1 hw  
  exact Eq.mpr (by kernel_rfl) h0
theorem cLoss_ok : ConOK Go.Proofs.Try.prog 23 cLoss := by
  refine cLoss_law ?_
  intro p c hw
  unfold cLoss_0
  refine ⟨trivial, ?_⟩
  by_cases g : cErr p c = 0
  · rw [if_neg (by simp [g])]
    obtain ⟨g1, g2⟩ := cErr_ok g
    obtain ⟨hb, ho, _⟩ := isCtr_box (validC_ok g2).1
    have l1 := validS_len hb.1
    have l2 := validS_len hb.2.1
    have hv := afterB_ok (validP_ok g1).2 (boxOf_valid hb)
    have h4 := validB_len hv
    have hg := validB_get hv ho.1 ho.2
    have hm := ext_in g
    have hi : idx c.2.2.1 ((afterB p (boxOf c.1 c.2.1)).length : Int) := ⟨ho.1, by omega⟩
    unfold boxCt at hm
    refine ⟨⟨by omega, by omega⟩, ⟨g1, boxOf_valid hb⟩, hi, ?_⟩
    have i1 : inI ((Rd (afterB p (boxOf c.1 c.2.1)) c.2.2.1).2.1 - (Rd (afterB p (boxOf c.1 c.2.1)) c.2.2.1).1) := by unfold inI; omega
    have i2 : inI (maxE p c - minE p c) := by unfold inI; omega
    have i3 : inI ((Rd (afterB p (boxOf c.1 c.2.1)) c.2.2.1).2.1 - (Rd (afterB p (boxOf c.1 c.2.1)) c.2.2.1).1 - (maxE p c - minE p c)) := by unfold inI; omega
    refine ⟨i1, i2, i3, ?_, g.symm, trivial⟩
    unfold lossV
    rw [if_pos g]; rfl
  · rw [if_pos (by simpa using g)]
    refine ⟨?_, rfl, trivial⟩
    unfold lossV; rw [if_neg g]
end Go.Tk
