/- Plain facts: lines exchanged, registers renamed (layer 1). No program in sight. -/
import Derived.Test.YtgimfjbnbnnjeaaP1s
set_option linter.unusedSimpArgs false
set_option linter.unusedVariables false
set_option linter.unnecessarySimpa false
namespace Go.Tk
open Go Go.RowKit

/-! ### Lines exchanged -/
def touchB (l m : Lin) : Bool := writes l && ((writes m && decide (m.2.1 = l.2.1)) || decide (l.2.1 ∈ readsL m))
def indepB (l m : Lin) : Bool := decide (l.1 ≠ 7) && decide (m.1 ≠ 7) && !touchB l m && !touchB m l
def landsB (at_ : Int) (s : Nat) (l : Lin) : Bool := decide (l.1 = 7) && decide ((s : Int) + 1 + l.2.1 = at_ + 1)
/-- No skip before the place leads to behind it. -/
def noLand (p : List Lin) (at_ : Int) (k : Nat) : Bool := (List.range k).all fun s => !landsB at_ s (p.getD s tL.dflt)
def canEr (p : List Lin) (at_ : Int) : Int := if validP p ≠ 0 then validP p else if within at_ 0 ((p.length : Int) - 2) = true then 0 else 4
def canX (p : List Lin) (at_ : Int) : Bool := decide (canEr p at_ = 0) && (noLand p at_ at_.toNat && indepB (p.getD at_.toNat tL.dflt) (p.getD (at_.toNat + 1) tL.dflt))
def exE (p : List Lin) (at_ : Int) : Int := if canEr p at_ ≠ 0 then canEr p at_ else if canX p at_ = true then 0 else 6
def exch (p : List Lin) (i : Nat) : List Lin := (p.set i (p.getD (i + 1) tL.dflt)).set (i + 1) (p.getD i tL.dflt)

theorem exch_len (p : List Lin) (i : Nat) : (exch p i).length = p.length := by unfold exch; simp
theorem exch_get {p : List Lin} {i : Nat} (hi : i + 1 < p.length) (j : Nat) : (exch p i).getD j tL.dflt = if j = i then p.getD (i + 1) tL.dflt else if j = i + 1 then p.getD i tL.dflt else p.getD j tL.dflt := by
  unfold exch
  simp only [List.getD_eq_getElem?_getD, List.getElem?_set, List.length_set]
  by_cases e : j = i + 1
  · subst e
    rw [if_pos rfl, if_pos hi, if_neg (by omega), if_pos rfl]; rfl
  · rw [if_neg (by omega)]
    by_cases e2 : j = i
    · subst e2
      rw [if_pos rfl, if_pos (by omega), if_pos rfl]; rfl
    · rw [if_neg (by omega), if_neg e2, if_neg e]
theorem ext_getD {p q : List Lin} (hl : p.length = q.length) (h : ∀ j, j < p.length → p.getD j tL.dflt = q.getD j tL.dflt) : p = q := by
  apply List.ext_getElem?
  intro j
  by_cases hj : j < p.length
  · have := h j hj
    rw [List.getD_eq_getElem?_getD, List.getD_eq_getElem?_getD, List.getElem?_eq_getElem hj, List.getElem?_eq_getElem (by omega)] at this
    rw [List.getElem?_eq_getElem hj, List.getElem?_eq_getElem (by omega)]
    simpa using this
  · rw [List.getElem?_eq_none (by omega), List.getElem?_eq_none (by omega)]
theorem exch_exch {p : List Lin} {i : Nat} (hi : i + 1 < p.length) : exch (exch p i) i = p := by
  refine ext_getD (by rw [exch_len, exch_len]) fun j hj => ?_
  rw [exch_get (by rw [exch_len]; exact hi), exch_get hi, exch_get hi, exch_get hi]
  by_cases e : j = i
  · subst e; simp
  · rw [if_neg e]
    by_cases e2 : j = i + 1
    · subst e2; simp
    · simp [e, e2]
theorem exch_valid {p : List Lin} {i : Nat} (hi : i + 1 < p.length) (h : validP p = 0) : validP (exch p i) = 0 := by
  obtain ⟨h8, ha⟩ := validP_ok h
  have : (exch p i).all validLine = true := by
    rw [List.all_eq_true]
    intro l hl
    obtain ⟨j, hj, e⟩ := List.getElem_of_mem hl
    rw [exch_len] at hj
    have := exch_get hi j
    rw [List.getD_eq_getElem?_getD, List.getElem?_eq_getElem (by rw [exch_len]; exact hj)] at this
    simp only [Option.getD_some] at this
    rw [e] at this
    rw [this]
    split
    · exact validLine_at ha hi
    · split
      · exact validLine_at ha (by omega)
      · exact validLine_at ha hj
  unfold validP
  rw [if_neg (by rw [exch_len]; omega), this]; rfl
theorem exE_ok {p : List Lin} {at_ : Int} (h : exE p at_ = 0) : validP p = 0 ∧ 0 ≤ at_ ∧ at_ + 1 < p.length ∧ noLand p at_ at_.toNat = true ∧ indepB (p.getD at_.toNat tL.dflt) (p.getD (at_.toNat + 1) tL.dflt) = true := by
  unfold exE at h
  split at h
  · rename_i g; exact absurd h g
  · rename_i g
    split at h
    · rename_i g2
      unfold canX at g2
      simp only [Bool.and_eq_true, decide_eq_true_eq] at g2
      unfold canEr at g
      split at g
      · rename_i g3; exact absurd g (by simpa using g3)
      · rename_i g3
        split at g
        · rename_i g4
          have := within_iff.1 g4
          exact ⟨by simpa using g3, by omega, by omega, g2.2.1, g2.2.2⟩
        · exact absurd g (by decide)
    · cases h
theorem noLand_at {p : List Lin} {i s : Nat} (h : noLand p i i = true) (hs : s < i) (st : List Int) : stepTo (p.getD s tL.dflt) s st ≠ i + 1 := by
  unfold noLand at h
  have := List.all_eq_true.1 h s (List.mem_range.2 hs)
  unfold landsB at this
  unfold stepTo
  split
  · rename_i h7
    intro e
    simp only [h7.1, decide_true, Bool.true_and, Bool.not_eq_true', decide_eq_false_iff_not] at this
    omega
  · omega
theorem indep_sym {l m : Lin} (h : indepB l m = true) : indepB m l = true := by
  unfold indepB at *
  simp only [Bool.and_eq_true, decide_eq_true_eq, Bool.not_eq_true'] at *
  exact ⟨⟨⟨h.1.1.2, h.1.1.1⟩, h.2⟩, h.1.2⟩
theorem stepTo_plain {l : Lin} (h : l.1 ≠ 7) (i : Nat) (s : List Int) : stepTo l i s = i + 1 := by unfold stepTo; rw [if_neg (by rintro ⟨g, _⟩; exact h g)]
theorem stepS_at (l : Lin) (i j : Nat) (s : List Int) : stepS noFrc l i s = stepS noFrc l j s := rfl
theorem state_ext {s t : List Int} (hs : s.length = 4) (ht : t.length = 4) (h : ∀ x, 0 ≤ x ∧ x ≤ 3 → Rg s x = Rg t x) : s = t := by
  apply List.ext_getElem?
  intro j
  by_cases hj : j < 4
  · have := h j (by omega)
    unfold Rg at this
    rw [Int.toNat_natCast, List.getD_eq_getElem?_getD, List.getD_eq_getElem?_getD, List.getElem?_eq_getElem (by omega), List.getElem?_eq_getElem (by omega)] at this
    rw [List.getElem?_eq_getElem (by omega), List.getElem?_eq_getElem (by omega)]
    simpa using this
  · rw [List.getElem?_eq_none (by omega), List.getElem?_eq_none (by omega)]
theorem touch_not {l m : Lin} (h : touchB l m = false) (hw : writes l = true) : (writes m = true → m.2.1 ≠ l.2.1) ∧ l.2.1 ∉ readsL m := by
  unfold touchB at h
  rw [hw, Bool.true_and, Bool.or_eq_false_iff] at h
  refine ⟨fun g e => ?_, by simpa using h.2⟩
  have := h.1
  rw [g] at this
  simp [e] at this
theorem step_comm {l m : Lin} (hl : validLine l = true) (hm : validLine m = true) (h : indepB l m = true) (i j : Nat) {s : List Int} (hs : s.length = 4) : stepS noFrc l i (stepS noFrc m j s) = stepS noFrc m j (stepS noFrc l i s) := by
  unfold indepB at h
  simp only [Bool.and_eq_true, decide_eq_true_eq, Bool.not_eq_true'] at h
  obtain ⟨⟨_, h1⟩, h2⟩ := h
  cases hwl : writes l
  · have e : ∀ t, stepS noFrc l i t = t := fun t => by unfold stepS; rw [if_neg (by rw [hwl]; simp)]
    rw [e, e]
  · cases hwm : writes m
    · have e : ∀ t, stepS noFrc m j t = t := fun t => by unfold stepS; rw [if_neg (by rw [hwm]; simp)]
      rw [e, e]
    · obtain ⟨a1, a2⟩ := touch_not h1 hwl
      obtain ⟨b1, b2⟩ := touch_not h2 hwm
      have tl := (line_regs hl).2.2.1 (writes_iff.1 hwl)
      have tm := (line_regs hm).2.2.1 (writes_iff.1 hwm)
      have hne := a1 hwm
      have el : ∀ t, stepS noFrc l i t = t.set l.2.1.toNat (cut (wval l t)) := fun t => by unfold stepS; rw [if_pos hwl]; rfl
      have em : ∀ t, stepS noFrc m j t = t.set m.2.1.toNat (cut (wval m t)) := fun t => by unfold stepS; rw [if_pos hwm]; rfl
      have vl : wval l (s.set m.2.1.toNat (cut (wval m s))) = wval l s := wval_same hwl fun x hx => by
        rw [Rg_set hs tm (readsL_reg hl x hx), if_neg (fun e => b2 (by rw [← e]; exact hx))]
      have vm : wval m (s.set l.2.1.toNat (cut (wval l s))) = wval m s := wval_same hwm fun x hx => by
        rw [Rg_set hs tl (readsL_reg hm x hx), if_neg (fun e => a2 (by rw [← e]; exact hx))]
      rw [em s, el s, el, em, vl, vm]
      refine state_ext (by simp [hs]) (by simp [hs]) fun x hx => ?_
      rw [Rg_set (by simp [hs]) tl hx, Rg_set hs tm hx, Rg_set (by simp [hs]) tm hx, Rg_set hs tl hx]
      by_cases e1 : x = l.2.1
      · rw [if_pos e1, if_neg (fun e => hne (by rw [← e, e1])), if_pos e1]
      · rw [if_neg e1, if_neg e1]

theorem run_exch {p : List Lin} {i : Nat} (hp : p.all validLine = true) (hi : i + 1 < p.length) (hn : noLand p i i = true) (hd : indepB (p.getD i tL.dflt) (p.getD (i + 1) tL.dflt) = true) :
    ∀ (f k : Nat) (s : List Int), s.length = 4 → p.length < k + f → k ≠ i + 1 → (runF (exch p i) noFrc f k s).2 = (runF p noFrc f k s).2 := by
  intro f
  induction f using Nat.strongRecOn with
  | ind f ih =>
    intro k s hs hf hk
    match f, ih, hf with
    | 0, ih, hf => rfl
    | f + 1, ih, hf =>
      by_cases hkl : k < p.length
      · have e1 : (runF p noFrc (f + 1) k s).2 = (runF p noFrc f (stepTo (p.getD k tL.dflt) k s) (stepS noFrc (p.getD k tL.dflt) k s)).2 := by rw [runF, if_pos hkl]
        have e2 : (runF (exch p i) noFrc (f + 1) k s).2 = (runF (exch p i) noFrc f (stepTo ((exch p i).getD k tL.dflt) k s) (stepS noFrc ((exch p i).getD k tL.dflt) k s)).2 := by rw [runF, if_pos (by rw [exch_len]; exact hkl)]
        by_cases hki : k = i
        · subst hki
          obtain ⟨f, rfl⟩ : ∃ f', f = f' + 1 := ⟨f - 1, by omega⟩
          obtain ⟨l, hl⟩ : ∃ l, l = p.getD k tL.dflt := ⟨_, rfl⟩
          obtain ⟨m, hm⟩ : ∃ m, m = p.getD (k + 1) tL.dflt := ⟨_, rfl⟩
          have g1 : (exch p k).getD k tL.dflt = m := by rw [exch_get hi, if_pos rfl, hm]
          have g2 : (exch p k).getD (k + 1) tL.dflt = l := by rw [exch_get hi, if_neg (by omega), if_pos rfl, hl]
          rw [← hl, ← hm] at hd
          have h7 : l.1 ≠ 7 ∧ m.1 ≠ 7 := by
            unfold indepB at hd
            simp only [Bool.and_eq_true, decide_eq_true_eq] at hd
            exact ⟨hd.1.1.1, hd.1.1.2⟩
          rw [← hl, stepTo_plain h7.1] at e1
          rw [g1, stepTo_plain h7.2] at e2
          have e3 : ∀ t, (runF p noFrc (f + 1) (k + 1) t).2 = (runF p noFrc f (k + 1 + 1) (stepS noFrc m (k + 1) t)).2 := fun t => by rw [runF, if_pos hi, ← hm, stepTo_plain h7.2]
          have e4 : ∀ t, (runF (exch p k) noFrc (f + 1) (k + 1) t).2 = (runF (exch p k) noFrc f (k + 1 + 1) (stepS noFrc l (k + 1) t)).2 := fun t => by rw [runF, if_pos (by rw [exch_len]; exact hi), g2, stepTo_plain h7.1]
          rw [e1, e2, e3, e4, stepS_at l (k + 1) k, stepS_at m (k + 1) k, step_comm (by rw [hl]; exact validLine_at hp hkl) (by rw [hm]; exact validLine_at hp hi) hd k k hs]
          exact ih f (by omega) _ _ (stepS_len _ _ _ (stepS_len _ _ _ hs)) (by omega) (by omega)
        · have g1 : (exch p i).getD k tL.dflt = p.getD k tL.dflt := by rw [exch_get hi, if_neg hki, if_neg hk]
          rw [e1, e2, g1]
          have hgt := stepTo_gt (p.getD k tL.dflt) k s
          refine ih f (by omega) _ _ (stepS_len _ _ _ hs) (by omega) ?_
          rcases Nat.lt_or_ge k i with h | h
          · exact noLand_at hn h s
          · omega
      · rw [runF, if_neg (by rw [exch_len]; exact hkl), runF, if_neg hkl]
theorem exch_run {p : List Lin} {i : Nat} {s : List Int} (hp : p.all validLine = true) (hi : i + 1 < p.length) (hn : noLand p i i = true) (hd : indepB (p.getD i tL.dflt) (p.getD (i + 1) tL.dflt) = true) (hs : validS s = true) : runS (exch p i) s = runS p s := by
  unfold runS endS
  rw [exch_len]
  exact run_exch hp hi hn hd (p.length + 1) 0 s (validS_len hs) (by omega) (by omega)
theorem exch_back {p : List Lin} {i : Nat} (hv : validP p = 0) (hi : i + 1 < p.length) (hn : noLand p i i = true) (hd : indepB (p.getD i tL.dflt) (p.getD (i + 1) tL.dflt) = true) : exE (exch p i) i = 0 := by
  have hc : canEr (exch p i) i = 0 := by
    unfold canEr
    rw [if_neg (by simp [exch_valid hi hv]), if_pos (within_iff.2 ⟨by omega, by rw [exch_len]; omega⟩)]
  unfold exE
  rw [if_neg (by simp [hc]), if_pos]
  unfold canX
  simp only [Bool.and_eq_true, decide_eq_true_eq, Int.toNat_natCast]
  refine ⟨hc, ?_, ?_⟩
  · unfold noLand at hn ⊢
    rw [List.all_eq_true] at hn ⊢
    intro s hs
    have hs' := List.mem_range.1 hs
    rw [exch_get hi, if_neg (by omega), if_neg (by omega)]
    exact hn s hs
  · rw [exch_get hi, exch_get hi, if_pos rfl, if_neg (by omega), if_pos rfl]
    exact indep_sym hd

/-! ### Registers renamed -/
def isOrdB (to_ : List Int) : Bool := decide (to_.length = 4) && (List.range 4).all fun r => decide ((r : Int) ∈ to_)
def renL (to_ : List Int) (l : Lin) : Lin := (l.1, if writes l = true then Rg to_ l.2.1 else l.2.1, if 2 ≤ l.1 then Rg to_ l.2.2.1 else l.2.2.1, if 3 ≤ l.1 then Rg to_ l.2.2.2.1 else l.2.2.2.1, ())
def renP (to_ : List Int) (p : List Lin) : List Lin := p.map (renL to_)
def renE (p : List Lin) (to_ : List Int) : Int := if validP p ≠ 0 then validP p else if isOrdB to_ = true then 0 else 1
def movK (s to_ : List Int) (k : Nat) : List Int := (List.range k).foldl (fun (o : List Int) (r : Nat) => o.set (Rg to_ (r : Int)).toNat (Rg s (r : Int))) (List.replicate s.length (0 : Int))
def movS (s to_ : List Int) : List Int := movK s to_ s.length
def movE (s to_ : List Int) : Int := if argErr (validS s) ≠ 0 then argErr (validS s) else if isOrdB to_ = true then 0 else 1

theorem movK_len (s to_ : List Int) (k : Nat) : (movK s to_ k).length = s.length := by
  unfold movK
  induction k with
  | zero => simp
  | succ k ih => rw [List.range_succ, List.foldl_append]; simpa using ih
theorem movK_succ (s to_ : List Int) (k : Nat) : movK s to_ (k + 1) = (movK s to_ k).set (Rg to_ k).toNat (Rg s k) := by
  unfold movK
  rw [List.range_succ, List.foldl_append]; rfl

/-- Each register has its own new number, and each number is one. -/
structure Perm4 (to_ : List Int) : Prop where
  reg : ∀ x, 0 ≤ x ∧ x ≤ 3 → 0 ≤ Rg to_ x ∧ Rg to_ x ≤ 3
  inj : ∀ x y, 0 ≤ x ∧ x ≤ 3 → 0 ≤ y ∧ y ≤ 3 → Rg to_ x = Rg to_ y → x = y
  sur : ∀ y, 0 ≤ y ∧ y ≤ 3 → ∃ x, (0 ≤ x ∧ x ≤ 3) ∧ Rg to_ x = y
theorem reg_cases {x : Int} (h : 0 ≤ x ∧ x ≤ 3) : x = 0 ∨ x = 1 ∨ x = 2 ∨ x = 3 := by omega
theorem perm4 {to_ : List Int} (h : isOrdB to_ = true) : Perm4 to_ := by
  unfold isOrdB at h
  simp only [Bool.and_eq_true, decide_eq_true_eq] at h
  obtain ⟨hl, ha⟩ := h
  match to_, hl with
  | [a, b, c, d], _ =>
    rw [List.all_eq_true] at ha
    have h0 := ha 0 (by decide)
    have h1 := ha 1 (by decide)
    have h2 := ha 2 (by decide)
    have h3 := ha 3 (by decide)
    simp only [decide_eq_true_eq, List.mem_cons, List.not_mem_nil, or_false] at h0 h1 h2 h3
    have r0 : Rg [a, b, c, d] 0 = a := rfl
    have r1 : Rg [a, b, c, d] 1 = b := rfl
    have r2 : Rg [a, b, c, d] 2 = c := rfl
    have r3 : Rg [a, b, c, d] 3 = d := rfl
    have key : (0 ≤ a ∧ a ≤ 3) ∧ (0 ≤ b ∧ b ≤ 3) ∧ (0 ≤ c ∧ c ≤ 3) ∧ (0 ≤ d ∧ d ≤ 3) ∧ a ≠ b ∧ a ≠ c ∧ a ≠ d ∧ b ≠ c ∧ b ≠ d ∧ c ≠ d := by
      have h0 : 0 = a ∨ 0 = b ∨ 0 = c ∨ 0 = d := by simpa using h0
      have h1 : 1 = a ∨ 1 = b ∨ 1 = c ∨ 1 = d := by simpa using h1
      have h2 : 2 = a ∨ 2 = b ∨ 2 = c ∨ 2 = d := by simpa using h2
      have h3 : 3 = a ∨ 3 = b ∨ 3 = c ∨ 3 = d := by simpa using h3
      rcases h0 with rfl | rfl | rfl | rfl <;> rcases h1 with h1 | h1 | h1 | h1 <;> (first | (exfalso; omega) | skip) <;> (try subst h1) <;> rcases h2 with h2 | h2 | h2 | h2 <;> (first | (exfalso; omega) | skip) <;> (try subst h2) <;> omega
    refine ⟨fun x hx => ?_, fun x y hx hy e => ?_, fun y hy => ?_⟩
    · rcases reg_cases hx with rfl | rfl | rfl | rfl
      · rw [r0]; omega
      · rw [r1]; omega
      · rw [r2]; omega
      · rw [r3]; omega
    · rcases reg_cases hx with rfl | rfl | rfl | rfl <;> rcases reg_cases hy with rfl | rfl | rfl | rfl <;> simp only [r0, r1, r2, r3] at e <;> omega
    · have : y = a ∨ y = b ∨ y = c ∨ y = d := by
        rcases reg_cases hy with rfl | rfl | rfl | rfl
        · simpa using h0
        · simpa using h1
        · simpa using h2
        · simpa using h3
      rcases this with rfl | rfl | rfl | rfl
      · exact ⟨0, by omega, rfl⟩
      · exact ⟨1, by omega, rfl⟩
      · exact ⟨2, by omega, rfl⟩
      · exact ⟨3, by omega, rfl⟩

/-- A state with its registers renamed. -/
def Ren (to_ s t : List Int) : Prop := t.length = 4 ∧ ∀ x, 0 ≤ x ∧ x ≤ 3 → Rg t (Rg to_ x) = Rg s x
theorem ren_uniq {to_ s t u : List Int} (hp : Perm4 to_) (h1 : Ren to_ s t) (h2 : Ren to_ s u) : t = u := state_ext h1.1 h2.1 fun y hy => by
  obtain ⟨x, hx, rfl⟩ := hp.sur y hy
  rw [h1.2 x hx, h2.2 x hx]
theorem mov_ren {to_ s : List Int} (hp : Perm4 to_) (hs : s.length = 4) : Ren to_ s (movS s to_) := by
  have key : ∀ k, k ≤ 4 → ∀ x : Nat, x < k → Rg (movK s to_ k) (Rg to_ x) = Rg s x := by
    intro k
    induction k with
    | zero => intro _ x hx; omega
    | succ k ih =>
      intro hk x hx
      rw [movK_succ, Rg_set (by rw [movK_len]; exact hs) (hp.reg k (by omega)) (hp.reg x (by omega))]
      by_cases e : x = k
      · subst e; rw [if_pos rfl]
      · rw [if_neg fun h => e (by have := hp.inj x k (by omega) (by omega) h; omega)]
        exact ih (by omega) x (by omega)
  refine ⟨by unfold movS; rw [movK_len]; exact hs, fun x hx => ?_⟩
  have := key 4 (Nat.le_refl _) x.toNat (by omega)
  rw [show ((x.toNat : Nat) : Int) = x by omega] at this
  unfold movS
  rw [hs]; exact this
theorem ren_valid {to_ s : List Int} (hp : Perm4 to_) (hs : validS s = true) : validS (movS s to_) = true := by
  have h4 := validS_len hs
  have hr := mov_ren hp h4
  rw [validS_iff]
  refine ⟨hr.1, fun n hn => ?_⟩
  obtain ⟨j, hj, e⟩ := List.getElem_of_mem hn
  have : Rg (movS s to_) j = n := by
    unfold Rg
    rw [Int.toNat_natCast, List.getD_eq_getElem?_getD, List.getElem?_eq_getElem hj]
    simpa using e
  obtain ⟨x, hx, e2⟩ := hp.sur j (by rw [hr.1] at hj; omega)
  rw [← this, ← e2, hr.2 x hx]
  exact validS_get hs x
theorem renL_writes (to_ : List Int) (l : Lin) : writes (renL to_ l) = writes l := rfl
theorem ren_wval {to_ s t : List Int} {l : Lin} (hv : validLine l = true) (hw : writes l = true) (h : Ren to_ s t) : wval (renL to_ l) t = wval l s := by
  have hr := line_regs hv
  have hw := writes_iff.1 hw
  unfold wval
  show (if l.1 = 1 then (if 2 ≤ l.1 then Rg to_ l.2.2.1 else l.2.2.1) else _) = _
  by_cases e1 : l.1 = 1
  · rw [if_pos e1, if_pos e1, if_neg (by omega)]
  rw [if_neg e1, if_neg e1]
  have ea : Rg t (renL to_ l).2.2.1 = Rg s l.2.2.1 := by
    show Rg t (if 2 ≤ l.1 then Rg to_ l.2.2.1 else l.2.2.1) = _
    rw [if_pos (by omega)]
    exact h.2 _ (hr.1 (by omega))
  show (if l.1 = 2 then Rg t (renL to_ l).2.2.1 else _) = _
  by_cases e2 : l.1 = 2
  · rw [if_pos e2, if_pos e2, ea]
  have eb : Rg t (renL to_ l).2.2.2.1 = Rg s l.2.2.2.1 := by
    show Rg t (if 3 ≤ l.1 then Rg to_ l.2.2.2.1 else l.2.2.2.1) = _
    rw [if_pos (by omega)]
    exact h.2 _ (hr.2.1 (by omega))
  rw [if_neg e2, if_neg e2, ea, eb]; rfl
theorem ren_step {to_ s t : List Int} {l : Lin} (hp : Perm4 to_) (hv : validLine l = true) (hs : s.length = 4) (i : Nat) (h : Ren to_ s t) : Ren to_ (stepS noFrc l i s) (stepS noFrc (renL to_ l) i t) ∧ stepTo (renL to_ l) i t = stepTo l i s := by
  have hr := line_regs hv
  constructor
  · unfold stepS
    rw [renL_writes]
    cases hw : writes l
    · simpa using h
    · simp only [if_true]
      have ht := hr.2.2.1 (writes_iff.1 hw)
      have et : (renL to_ l).2.1 = Rg to_ l.2.1 := by
        show (if writes l = true then Rg to_ l.2.1 else l.2.1) = _
        rw [if_pos hw]
      refine ⟨by rw [List.length_set]; exact h.1, fun x hx => ?_⟩
      rw [et, Rg_set h.1 (hp.reg _ ht) (hp.reg _ hx), Rg_set hs ht hx]
      show (if _ then cut (wval (renL to_ l) t) else _) = if _ then cut (wval l s) else _
      rw [ren_wval hv hw h]
      by_cases e : x = l.2.1
      · rw [if_pos (by rw [e]), if_pos e]
      · rw [if_neg fun g => e (hp.inj _ _ hx ht g), if_neg e]
        exact h.2 x hx
  · unfold stepTo
    by_cases h7 : l.1 = 7
    · have ea : Rg t (renL to_ l).2.2.1 = Rg s l.2.2.1 := by
        show Rg t (if 2 ≤ l.1 then Rg to_ l.2.2.1 else l.2.2.1) = _
        rw [if_pos (by omega)]
        exact h.2 _ (hr.1 (by omega))
      have eb : Rg t (renL to_ l).2.2.2.1 = Rg s l.2.2.2.1 := by
        show Rg t (if 3 ≤ l.1 then Rg to_ l.2.2.2.1 else l.2.2.2.1) = _
        rw [if_pos (by omega)]
        exact h.2 _ (hr.2.1 (by omega))
      have et : (renL to_ l).2.1 = l.2.1 := by
        show (if writes l = true then Rg to_ l.2.1 else l.2.1) = _
        rw [if_neg (by unfold writes; simp only [decide_eq_true_eq]; omega)]
      rw [ea, eb, et]; rfl
    · rw [if_neg (by rintro ⟨g, _⟩; exact h7 g), if_neg (by rintro ⟨g, _⟩; exact h7 g)]
theorem renP_get (to_ : List Int) {p : List Lin} {i : Nat} (hi : i < p.length) : (renP to_ p).getD i tL.dflt = renL to_ (p.getD i tL.dflt) := by
  unfold renP
  simp [List.getD_eq_getElem?_getD, hi]
theorem run_ren {to_ : List Int} {p : List Lin} (hp : Perm4 to_) (hv : p.all validLine = true) : ∀ (f i : Nat) (s t : List Int), s.length = 4 → Ren to_ s t → Ren to_ (runF p noFrc f i s).2 (runF (renP to_ p) noFrc f i t).2 := by
  intro f
  induction f with
  | zero => intro i s t _ h; exact h
  | succ f ih =>
    intro i s t hs h
    have hl : (renP to_ p).length = p.length := by unfold renP; rw [List.length_map]
    by_cases hi : i < p.length
    · obtain ⟨g1, g2⟩ := ren_step hp (validLine_at hv hi) hs i h
      have e1 : (runF p noFrc (f + 1) i s).2 = (runF p noFrc f (stepTo (p.getD i tL.dflt) i s) (stepS noFrc (p.getD i tL.dflt) i s)).2 := by rw [runF, if_pos hi]
      have e2 : (runF (renP to_ p) noFrc (f + 1) i t).2 = (runF (renP to_ p) noFrc f (stepTo ((renP to_ p).getD i tL.dflt) i t) (stepS noFrc ((renP to_ p).getD i tL.dflt) i t)).2 := by rw [runF, if_pos (by rw [hl]; exact hi)]
      rw [e1, e2, renP_get to_ hi, g2]
      exact ih _ _ _ (stepS_len _ _ _ hs) g1
    · have e1 : (runF p noFrc (f + 1) i s).2 = s := by rw [runF, if_neg hi]
      have e2 : (runF (renP to_ p) noFrc (f + 1) i t).2 = t := by rw [runF, if_neg (by rw [hl]; exact hi)]
      rw [e1, e2]; exact h
theorem ren_run {to_ s : List Int} {p : List Lin} (ho : isOrdB to_ = true) (hv : p.all validLine = true) (hs : validS s = true) : runS (renP to_ p) (movS s to_) = movS (runS p s) to_ := by
  have hp := perm4 ho
  have h4 := validS_len hs
  refine ren_uniq hp ?_ (mov_ren hp (validS_len (runS_ok hs)))
  have hl : (renP to_ p).length = p.length := by unfold renP; rw [List.length_map]
  unfold runS endS
  rw [hl]
  exact run_ren hp hv (p.length + 1) 0 s _ h4 (mov_ren hp h4)
theorem renL_valid {to_ : List Int} {l : Lin} (hp : Perm4 to_) (h : validLine l = true) : validLine (renL to_ l) = true := by
  have hr := line_regs h
  obtain ⟨op, t, x, y, ⟨⟩⟩ := l
  have hreg : ∀ z, isReg z = true → isReg (Rg to_ z) = true := fun z hz => within_iff.2 (hp.reg z (within_iff.1 hz))
  dsimp only at hr
  have c : op = 0 ∨ op = 1 ∨ op = 2 ∨ op = 3 ∨ op = 4 ∨ op = 5 ∨ op = 6 ∨ op = 7 := by omega
  unfold renL
  rcases c with rfl | rfl | rfl | rfl | rfl | rfl | rfl | rfl <;> simp [validLine, writes] at h ⊢ <;> simp_all
theorem renP_valid {to_ : List Int} {p : List Lin} (hp : Perm4 to_) (h : validP p = 0) : validP (renP to_ p) = 0 := by
  obtain ⟨h8, ha⟩ := validP_ok h
  have : (renP to_ p).all validLine = true := by
    unfold renP
    rw [List.all_eq_true] at ha ⊢
    intro l hl
    obtain ⟨m, hm, rfl⟩ := List.mem_map.1 hl
    exact renL_valid hp (ha m hm)
  unfold validP
  rw [if_neg (by unfold renP; rw [List.length_map]; omega), this]; rfl
end Go.Tk
