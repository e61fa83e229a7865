/- Plain facts: slices of a run, lines left out, lines exchanged, registers renamed (layer 1). No program in sight. -/
import Derived.Test.YtgimfjbnbnnjeaaP1r
set_option linter.unusedSimpArgs false
set_option linter.unusedVariables false
set_option linter.unnecessarySimpa false
namespace Go.Tk
open Go Go.RowKit

/-! ### What a line reads -/
def sortL (xs : List Int) : List Int := xs.mergeSort fun x y => decide (x ≤ y)
theorem sortL_len (xs : List Int) : (sortL xs).length = xs.length := by unfold sortL; exact List.length_mergeSort _
theorem sortL_perm (xs : List Int) : (sortL xs).Perm xs := List.mergeSort_perm ..
def rdN (l : Lin) : Nat := if l.1 = 2 then 1 else if 3 ≤ l.1 then 2 else 0
def compL : List Int → List Int
  | [a, b] => if b = a then [a] else [a, b]
  | s => s
theorem compL_mem (s : List Int) (x : Int) : x ∈ compL s ↔ x ∈ s := by
  unfold compL
  split
  · split
    · rename_i h; subst h; simp
    · rfl
  · rfl
theorem compL_len (s : List Int) : (compL s).length ≤ s.length := by
  unfold compL
  split
  · split <;> simp
  · exact Nat.le_refl _
def argsL (l : Lin) : List Int := [l.2.2.1, l.2.2.2.1].take (rdN l)
def readsL (l : Lin) : List Int := compL (sortL (argsL l))
theorem rdN_le (l : Lin) : rdN l ≤ 2 := by unfold rdN; split; omega; split <;> omega
theorem argsL_len (l : Lin) : (argsL l).length ≤ 2 := by unfold argsL; rw [List.length_take]; have := rdN_le l; omega
theorem readsL_len (l : Lin) : (readsL l).length ≤ 2 := by
  unfold readsL
  have h1 := compL_len (sortL (argsL l))
  rw [sortL_len] at h1
  have := argsL_len l
  omega
theorem readsL_mem (l : Lin) (x : Int) : x ∈ readsL l ↔ (2 ≤ l.1 ∧ x = l.2.2.1) ∨ (3 ≤ l.1 ∧ x = l.2.2.2.1) := by
  unfold readsL
  rw [compL_mem, (sortL_perm _).mem_iff]
  unfold argsL rdN
  by_cases h2 : l.1 = 2
  · rw [if_pos h2]; simp [h2]
  · rw [if_neg h2]
    by_cases h3 : 3 ≤ l.1
    · rw [if_pos h3]
      simp [h3, show 2 ≤ l.1 by omega]
    · rw [if_neg h3]
      simp only [List.take_zero, List.not_mem_nil, false_iff]
      omega
theorem readsL_reg {l : Lin} (h : validLine l = true) : ∀ x ∈ readsL l, 0 ≤ x ∧ x ≤ 3 := fun x hx => by
  have hr := line_regs h
  rcases (readsL_mem l x).1 hx with ⟨h1, rfl⟩ | ⟨h1, rfl⟩
  · exact hr.1 (by omega)
  · exact hr.2.1 (by omega)

/-! ### Slices -/
def matB (m : List Bool) (x : Int) : Bool := m.getD x.toNat false
def addM (m : List Bool) (rs : List Int) : List Bool := rs.foldl (fun m r => m.set r.toNat true) m
theorem addM_len (m : List Bool) (rs : List Int) : (addM m rs).length = m.length := by
  unfold addM
  induction rs generalizing m with
  | nil => rfl
  | cons r rs ih => rw [List.foldl_cons, ih, List.length_set]
theorem matB_set {m : List Bool} {r x : Int} {b : Bool} (hm : m.length = 4) (hr : 0 ≤ r ∧ r ≤ 3) (hx : 0 ≤ x ∧ x ≤ 3) : matB (m.set r.toNat b) x = if x = r then b else matB m x := by
  unfold matB
  rw [List.getD_eq_getElem?_getD, List.getElem?_set]
  by_cases e : x = r
  · subst e
    rw [if_pos rfl, if_pos (by omega), if_pos rfl]; rfl
  · rw [if_neg (by omega), if_neg e, List.getD_eq_getElem?_getD]
theorem matB_addM {rs : List Int} : ∀ {m : List Bool} {x : Int}, m.length = 4 → (∀ r ∈ rs, 0 ≤ r ∧ r ≤ 3) → (0 ≤ x ∧ x ≤ 3) → (matB (addM m rs) x = true ↔ matB m x = true ∨ x ∈ rs) := by
  induction rs with
  | nil => intro m x _ _ _; simp [addM]
  | cons r rs ih =>
    intro m x hm hr hx
    have e : addM m (r :: rs) = addM (m.set r.toNat true) rs := rfl
    rw [e, ih (by rw [List.length_set]; exact hm) (fun q hq => hr q (by simp [hq])) hx, matB_set hm (hr r (by simp)) hx]
    by_cases e : x = r
    · subst e; simp
    · rw [if_neg e]; simp [e]

abbrev Bks := List Bool × List Int
/-- What a line that is done does to which registers matter, and whether it is in the slice. -/
def slcS (p : List Lin) (v : Int) (st : Bks) : Bks :=
  if (p.getD v.toNat tL.dflt).1 ≠ 7 ∧ (writes (p.getD v.toNat tL.dflt) = false ∨ matB st.1 (p.getD v.toNat tL.dflt).2.1 = false) then st
  else (addM (if writes (p.getD v.toNat tL.dflt) = true then st.1.set (p.getD v.toNat tL.dflt).2.1.toNat false else st.1) (readsL (p.getD v.toNat tL.dflt)), st.2 ++ [v])
def mat0 (r : Int) : List Bool := (List.replicate 4 false).set r.toNat true
def slcL (p : List Lin) (r : Int) (vs : List Int) : Bks := vs.foldr (slcS p) (mat0 r, [])
/-- Behind k lines, from the last one on. -/
def slcK (p : List Lin) (r : Int) (vs : List Int) (k : Nat) : Bks := slcL p r (vs.drop (vs.length - k))
def sliceL (p : List Lin) (s : List Int) (r : Int) : List Int := (slcL p r (doneS p s)).2.reverse

theorem slcK_zero (p : List Lin) (r : Int) (vs : List Int) : slcK p r vs 0 = (mat0 r, []) := by
  unfold slcK slcL
  rw [Nat.sub_zero, List.drop_length]; rfl
theorem slcK_all (p : List Lin) (r : Int) (vs : List Int) : slcK p r vs vs.length = slcL p r vs := by
  unfold slcK; rw [Nat.sub_self, List.drop_zero]
theorem slcK_succ (p : List Lin) (r : Int) {vs : List Int} {k : Nat} (hk : k < vs.length) : slcK p r vs (k + 1) = slcS p (vs.getD (vs.length - 1 - k) 0) (slcK p r vs k) := by
  unfold slcK
  have e : vs.drop (vs.length - (k + 1)) = vs.getD (vs.length - 1 - k) 0 :: vs.drop (vs.length - k) := by
    have h : vs.length - (k + 1) < vs.length := by omega
    rw [List.drop_eq_getElem_cons h]
    congr 1
    · rw [List.getD_eq_getElem?_getD, show vs.length - 1 - k = vs.length - (k + 1) by omega, List.getElem?_eq_getElem h]; rfl
    · congr 1; omega
  rw [e]; rfl
theorem slcS_len (p : List Lin) (v : Int) {st : Bks} (h : st.1.length = 4) : (slcS p v st).1.length = 4 := by
  unfold slcS
  split
  · exact h
  · dsimp only
    rw [addM_len]
    split
    · rw [List.length_set]; exact h
    · exact h
theorem slcL_len (p : List Lin) (r : Int) (vs : List Int) : (slcL p r vs).1.length = 4 := by
  unfold slcL
  induction vs with
  | nil => simp [mat0]
  | cons v vs ih => rw [List.foldr_cons]; exact slcS_len p v ih
theorem slcK_len (p : List Lin) (r : Int) (vs : List Int) (k : Nat) : (slcK p r vs k).1.length = 4 := slcL_len ..
theorem slcS_out (p : List Lin) (v : Int) (st : Bks) : (slcS p v st).2.length ≤ st.2.length + 1 := by
  unfold slcS
  split
  · omega
  · simp
theorem slcS_mem (p : List Lin) (v : Int) (st : Bks) {x : Int} (h : x ∈ (slcS p v st).2) : x ∈ st.2 ∨ x = v := by
  unfold slcS at h
  split at h
  · exact .inl h
  · simpa using h
theorem slcL_sub (p : List Lin) (r : Int) (vs : List Int) : ∀ x ∈ (slcL p r vs).2, x ∈ vs := by
  unfold slcL
  induction vs with
  | nil => intro x h; simp at h
  | cons v vs ih =>
    intro x h
    rw [List.foldr_cons] at h
    rcases slcS_mem _ _ _ h with h | rfl
    · exact List.mem_cons_of_mem _ (ih x h)
    · simp
theorem slcL_outlen (p : List Lin) (r : Int) (vs : List Int) : (slcL p r vs).2.length ≤ vs.length := by
  unfold slcL
  induction vs with
  | nil => simp
  | cons v vs ih =>
    rw [List.foldr_cons, List.length_cons]
    have := slcS_out p v (List.foldr (slcS p) (mat0 r, []) vs)
    omega
theorem slcK_outlen (p : List Lin) (r : Int) (vs : List Int) (k : Nat) : (slcK p r vs k).2.length ≤ k := by
  unfold slcK
  have := slcL_outlen p r (vs.drop (vs.length - k))
  rw [List.length_drop] at this
  omega
theorem mat0_get {r x : Int} (hr : 0 ≤ r ∧ r ≤ 3) (hx : 0 ≤ x ∧ x ≤ 3) : matB (mat0 r) x = decide (x = r) := by
  unfold mat0
  rw [matB_set (by simp) hr hx]
  by_cases e : x = r
  · simp [e]
  · rw [if_neg e]
    unfold matB
    rw [List.getD_eq_getElem?_getD, List.getElem?_replicate, if_pos (by omega)]
    simp [e]
theorem slice_done {p : List Lin} {s : List Int} {r x : Int} (h : x ∈ sliceL p s r) : x ∈ doneS p s := slcL_sub _ _ _ x (by unfold sliceL at h; simpa using h)
theorem sliceL_len (p : List Lin) (s : List Int) (r : Int) : (sliceL p s r).length ≤ p.length := by
  unfold sliceL
  rw [List.length_reverse]
  have h1 := slcL_outlen p r (doneS p s)
  have h2 : (doneS p s).length = (visits p noFrc s).length := by unfold doneS; rw [List.length_map]
  have h3 := visits_len p noFrc s
  omega

/-! ### Registers of a state -/
theorem Rg_set {s : List Int} {r x n : Int} (hs : s.length = 4) (hr : 0 ≤ r ∧ r ≤ 3) (hx : 0 ≤ x ∧ x ≤ 3) : Rg (s.set r.toNat n) x = if x = r then n else Rg s x := by
  unfold Rg
  rw [List.getD_eq_getElem?_getD, List.getElem?_set]
  by_cases e : x = r
  · subst e
    rw [if_pos rfl, if_pos (by omega), if_pos rfl]; rfl
  · rw [if_neg (by omega), if_neg e, List.getD_eq_getElem?_getD]
theorem stepS_len (fr : Frc) (l : Lin) (i : Nat) {s : List Int} (h : s.length = 4) : (stepS fr l i s).length = 4 := by
  unfold stepS
  split
  · rw [List.length_set]; exact h
  · exact h
theorem writes_iff {l : Lin} : writes l = true ↔ 1 ≤ l.1 ∧ l.1 ≤ 6 := by unfold writes; simp
/-- What a line makes depends on what it reads alone. -/
theorem wval_same {l : Lin} {s s' : List Int} (hw : writes l = true) (h : ∀ x ∈ readsL l, Rg s x = Rg s' x) : wval l s = wval l s' := by
  have hw := writes_iff.1 hw
  unfold wval
  by_cases e1 : l.1 = 1
  · rw [if_pos e1, if_pos e1]
  have ha := h l.2.2.1 ((readsL_mem l _).2 (.inl ⟨by omega, rfl⟩))
  by_cases e2 : l.1 = 2
  · simp only [e2]; simpa using ha
  have hb := h l.2.2.2.1 ((readsL_mem l _).2 (.inr ⟨by omega, rfl⟩))
  rw [ha, hb]

theorem zero_line : (tL.dflt : Lin) = (0, 0, 0, 0, ()) := rfl
theorem mem_lines {p : List Lin} {fr : Frc} {f i : Nat} {s : List Int} (hs : validS s = true) {x : Int} (h : x ∈ (runF p fr f i s).1.map (·.1)) : (i : Int) ≤ x := by
  obtain ⟨v, hv, rfl⟩ := List.mem_map.1 h
  exact ((runF_ok p fr f i s hs).2 v hv).1

/-- A run without lines that write and that are not in the slice. -/
theorem run_less {p q : List Lin} {r : Int} {S : List Int} (hp : p.all validLine = true) (hr : 0 ≤ r ∧ r ≤ 3) (hl : q.length = p.length)
    (hq : ∀ i, i < p.length → q.getD i tL.dflt = if writes (p.getD i tL.dflt) = true ∧ (i : Int) ∉ S then tL.dflt else p.getD i tL.dflt) :
    ∀ (f i : Nat) (s s' : List Int), validS s = true → s'.length = 4 → (∀ x, 0 ≤ x ∧ x ≤ 3 → matB (slcL p r ((runF p noFrc f i s).1.map (·.1))).1 x = true → Rg s x = Rg s' x) →
      (∀ v ∈ (runF p noFrc f i s).1.map (·.1), v ∈ S ↔ v ∈ (slcL p r ((runF p noFrc f i s).1.map (·.1))).2) →
      (runF q noFrc f i s').1.map (·.1) = (runF p noFrc f i s).1.map (·.1) ∧ slcL q r ((runF p noFrc f i s).1.map (·.1)) = slcL p r ((runF p noFrc f i s).1.map (·.1)) ∧ Rg (runF q noFrc f i s').2 r = Rg (runF p noFrc f i s).2 r := by
  intro f
  induction f with
  | zero =>
    intro i s s' hs hs' hM _
    refine ⟨rfl, rfl, (hM r hr ?_).symm⟩
    show matB (mat0 r) r = true
    rw [mat0_get hr hr]; simp
  | succ f ih =>
    intro i s s' hs hs' hM hS
    by_cases hi : i < p.length
    · have e1 : runF p noFrc (f + 1) i s = (((i : Int), s, ()) :: (runF p noFrc f (stepTo (p.getD i tL.dflt) i s) (stepS noFrc (p.getD i tL.dflt) i s)).1, (runF p noFrc f (stepTo (p.getD i tL.dflt) i s) (stepS noFrc (p.getD i tL.dflt) i s)).2) := by rw [runF, if_pos hi]
      have e2 : runF q noFrc (f + 1) i s' = (((i : Int), s', ()) :: (runF q noFrc f (stepTo (q.getD i tL.dflt) i s') (stepS noFrc (q.getD i tL.dflt) i s')).1, (runF q noFrc f (stepTo (q.getD i tL.dflt) i s') (stepS noFrc (q.getD i tL.dflt) i s')).2) := by rw [runF, if_pos (by omega)]
      have hqi := hq i hi
      have hv := validLine_at hp hi
      obtain ⟨l, hldef⟩ : ∃ l, l = p.getD i tL.dflt := ⟨_, rfl⟩
      rw [← hldef] at hqi hv e1
      have hgt := stepTo_gt l i s
      have hs1 := stepS_ok noFrc l i hs
      have ihx := ih (stepTo l i s) (stepS noFrc l i s)
      rw [e1] at hM hS ⊢
      rw [e2]
      obtain ⟨R, hR⟩ : ∃ R, R = runF p noFrc f (stepTo l i s) (stepS noFrc l i s) := ⟨_, rfl⟩
      have hmem : ∀ v ∈ R.1.map (·.1), (stepTo l i s : Int) ≤ v := fun v hv => mem_lines hs1 (by rw [hR] at hv; exact hv)
      rw [← hR] at hM hS ihx ⊢
      simp only [List.map_cons] at hM hS ⊢
      obtain ⟨vs, hvs⟩ : ∃ vs, vs = R.1.map (·.1) := ⟨_, rfl⟩
      rw [← hvs] at hM hS ihx hmem ⊢
      have eb : slcL p r ((i : Int) :: vs) = slcS p i (slcL p r vs) := rfl
      have eq : slcL q r ((i : Int) :: vs) = slcS q i (slcL q r vs) := rfl
      have hml := slcL_len p r vs
      have hsub := slcL_sub p r vs
      have hout : (i : Int) ∉ (slcL p r vs).2 := fun h => by have := hmem _ (hsub _ h); omega
      have hregs := line_regs hv
      have hrr := readsL_reg hv
      have hsl : s.length = 4 := validS_len hs
      -- what is in the slice
      have hS' : ∀ v ∈ vs, v ∈ S ↔ v ∈ (slcL p r vs).2 := fun v hv => by
        rw [hS v (by simp [hv]), eb]
        constructor
        · intro h
          rcases slcS_mem _ _ _ h with h | rfl
          · exact h
          · have := hmem _ hv; omega
        · intro h
          unfold slcS
          split
          · exact h
          · simp [h]
      have hSi : (i : Int) ∈ S ↔ (i : Int) ∈ (slcS p i (slcL p r vs)).2 := by rw [← eb]; exact hS _ (by simp)
      have bp : slcS p i (slcL p r vs) = if l.1 ≠ 7 ∧ (writes l = false ∨ matB (slcL p r vs).1 l.2.1 = false) then slcL p r vs
          else (addM (if writes l = true then (slcL p r vs).1.set l.2.1.toNat false else (slcL p r vs).1) (readsL l), (slcL p r vs).2 ++ [(i : Int)]) := by
        unfold slcS; rw [Int.toNat_natCast, ← hldef]
      rw [eb] at hM ⊢
      rw [eq]
      -- the next round
      have fin : ∀ s1', s1'.length = 4 → stepTo (q.getD i tL.dflt) i s' = stepTo l i s → stepS noFrc (q.getD i tL.dflt) i s' = s1' → (∀ x, 0 ≤ x ∧ x ≤ 3 → matB (slcL p r vs).1 x = true → Rg (stepS noFrc l i s) x = Rg s1' x) →
          slcS q i (slcL p r vs) = slcS p i (slcL p r vs) → ((i : Int) :: (runF q noFrc f (stepTo (q.getD i tL.dflt) i s') (stepS noFrc (q.getD i tL.dflt) i s')).1.map (·.1) = (i : Int) :: vs ∧
            slcS q i (slcL q r vs) = slcS p i (slcL p r vs) ∧ Rg (runF q noFrc f (stepTo (q.getD i tL.dflt) i s') (stepS noFrc (q.getD i tL.dflt) i s')).2 r = Rg R.2 r) := by
        intro s1' hl1 ht hst hag hbk
        obtain ⟨g1, g2, g3⟩ := ihx s1' hs1 hl1 hag hS'
        rw [ht, hst, g1, g2, g3]
        exact ⟨rfl, hbk, rfl⟩
      by_cases h7 : l.1 = 7
      · have hw : writes l = false := by unfold writes; simp only [decide_eq_false_iff_not]; omega
        have hql : q.getD i tL.dflt = l := by rw [hqi, if_neg (by rw [hw]; simp)]
        rw [if_neg (by rintro ⟨h, _⟩; exact h h7), if_neg (by rw [hw]; simp)] at bp
        have hsame : stepS noFrc l i s = s := by unfold stepS; rw [if_neg (by rw [hw]; simp)]
        have hrd : ∀ x ∈ readsL l, Rg s x = Rg s' x := fun x hx => hM x (hrr x hx) (by rw [bp]; exact (matB_addM hml hrr (hrr x hx)).2 (.inr hx))
        refine fin s' hs' ?_ ?_ ?_ ?_
        · rw [hql]
          unfold stepTo
          rw [hrd _ ((readsL_mem l _).2 (.inl ⟨by omega, rfl⟩)), hrd _ ((readsL_mem l _).2 (.inr ⟨by omega, rfl⟩))]
        · rw [hql]; unfold stepS; rw [if_neg (by rw [hw]; simp)]
        · intro x hx hmx
          rw [hsame]
          exact hM x hx (by rw [bp]; exact (matB_addM hml hrr hx).2 (.inl hmx))
        · unfold slcS
          rw [Int.toNat_natCast, hql, ← hldef]
      · have hto : ∀ t, stepTo l i t = i + 1 := fun t => by unfold stepTo; rw [if_neg (by rintro ⟨h, _⟩; exact h7 h)]
        cases hw : writes l
        · have hql : q.getD i tL.dflt = l := by rw [hqi, if_neg (by rw [hw]; simp)]
          rw [if_pos ⟨h7, .inl hw⟩] at bp
          have hsame : ∀ t, stepS noFrc l i t = t := fun t => by unfold stepS; rw [if_neg (by rw [hw]; simp)]
          refine fin s' hs' (by rw [hql, hto, hto]) (by rw [hql, hsame]) (fun x hx hmx => by rw [hsame]; exact hM x hx (by rw [bp]; exact hmx)) ?_
          unfold slcS
          rw [Int.toNat_natCast, hql, ← hldef]
        · have ht := hregs.2.2.1 (writes_iff.1 hw)
          cases hmt : matB (slcL p r vs).1 l.2.1
          · rw [if_pos ⟨h7, .inr hmt⟩] at bp
            have hql : q.getD i tL.dflt = tL.dflt := by rw [hqi, if_pos ⟨hw, fun h => hout (by rw [hSi, bp] at h; exact h)⟩]
            refine fin s' hs' (by rw [hql, hto]; rfl) (by rw [hql]; rfl) (fun x hx hmx => ?_) ?_
            · have hne : x ≠ l.2.1 := fun e => by rw [e, hmt] at hmx; cases hmx
              unfold stepS
              rw [if_pos hw, Rg_set hsl ht hx, if_neg hne]
              exact hM x hx (by rw [bp]; exact hmx)
            · rw [bp]
              unfold slcS
              rw [Int.toNat_natCast, hql, if_pos ⟨by decide, .inl rfl⟩]
          · rw [if_neg (by rintro ⟨_, h | h⟩; rw [hw] at h; cases h; rw [hmt] at h; cases h), if_pos hw] at bp
            have hin : (i : Int) ∈ S := hSi.2 (by rw [bp]; simp)
            have hql : q.getD i tL.dflt = l := by rw [hqi, if_neg (by rintro ⟨_, h⟩; exact h hin)]
            have hml2 : ((slcL p r vs).1.set l.2.1.toNat false).length = 4 := by rw [List.length_set]; exact hml
            have hrd : ∀ x ∈ readsL l, Rg s x = Rg s' x := fun x hx => hM x (hrr x hx) (by rw [bp]; exact (matB_addM hml2 hrr (hrr x hx)).2 (.inr hx))
            refine fin (stepS noFrc l i s') (stepS_len _ _ _ hs') (by rw [hql, hto, hto]) (by rw [hql]) (fun x hx hmx => ?_) ?_
            · unfold stepS
              rw [if_pos hw, if_pos hw, Rg_set hsl ht hx, Rg_set hs' ht hx]
              by_cases e : x = l.2.1
              · rw [if_pos e, if_pos e]
                show cut (wval l s) = cut (wval l s')
                rw [wval_same hw hrd]
              · rw [if_neg e, if_neg e]
                refine hM x hx ?_
                rw [bp]
                refine (matB_addM hml2 hrr hx).2 (.inl ?_)
                rw [matB_set hml ht hx, if_neg e]
                exact hmx
            · unfold slcS
              rw [Int.toNat_natCast, hql, ← hldef]
    · have e1 : runF p noFrc (f + 1) i s = ([], s) := by rw [runF, if_neg hi]
      have e2 : runF q noFrc (f + 1) i s' = ([], s') := by rw [runF, if_neg (by omega)]
      rw [e1] at hM ⊢
      rw [e2]
      refine ⟨rfl, rfl, (hM r hr ?_).symm⟩
      show matB (mat0 r) r = true
      rw [mat0_get hr hr]; simp

theorem less_all {p q : List Lin} {r : Int} {s : List Int} (hp : p.all validLine = true) (hs : validS s = true) (hr : 0 ≤ r ∧ r ≤ 3) (hl : q.length = p.length)
    (hq : ∀ i, i < p.length → q.getD i tL.dflt = if writes (p.getD i tL.dflt) = true ∧ (i : Int) ∉ sliceL p s r then tL.dflt else p.getD i tL.dflt) : Rg (runS q s) r = Rg (runS p s) r ∧ sliceL q s r = sliceL p s r := by
  have := run_less hp hr hl hq (p.length + 1) 0 s s hs (validS_len hs) (fun _ _ _ => rfl) (fun v _ => by unfold sliceL doneS visits; simp)
  obtain ⟨g1, g2, g3⟩ := this
  have ed : doneS q s = doneS p s := by unfold doneS visits; rw [hl]; exact g1
  refine ⟨by unfold runS endS; rw [hl]; exact g3, ?_⟩
  unfold sliceL
  rw [ed]
  show (slcL q r ((runF p noFrc (p.length + 1) 0 s).1.map (·.1))).2.reverse = _
  rw [g2]; rfl

/-! ### The program without these lines -/
def lessK (p : List Lin) (S : List Int) (k : Nat) : List Lin := p.mapIdx fun i l => if i < k ∧ writes l = true ∧ (i : Int) ∉ S then tL.dflt else l
theorem lessK_len (p : List Lin) (S : List Int) (k : Nat) : (lessK p S k).length = p.length := by unfold lessK; rw [List.length_mapIdx]
theorem lessK_zero (p : List Lin) (S : List Int) : lessK p S 0 = p := by
  unfold lessK
  apply List.ext_getElem?
  intro i
  rw [List.getElem?_mapIdx]
  simp
theorem lessK_get (p : List Lin) (S : List Int) (k : Nat) {i : Nat} (hi : i < p.length) : (lessK p S k).getD i tL.dflt = if i < k ∧ writes (p.getD i tL.dflt) = true ∧ (i : Int) ∉ S then tL.dflt else p.getD i tL.dflt := by
  unfold lessK
  simp only [List.getD_eq_getElem?_getD, List.getElem?_mapIdx, List.getElem?_eq_getElem hi, Option.map_some, Option.getD_some]
theorem lessK_out {p : List Lin} {S : List Int} {k : Nat} (hk : k < p.length) (hw : writes (p.getD k tL.dflt) = true) (hS : (k : Int) ∉ S) : (lessK p S k).set k (0, 0, 0, 0, ()) = lessK p S (k + 1) := by
  apply List.ext_getElem?
  intro i
  rw [List.getElem?_set, lessK_len]
  by_cases e : k = i
  · subst e
    rw [if_pos rfl, if_pos hk]
    unfold lessK
    rw [List.getElem?_mapIdx, List.getElem?_eq_getElem hk]
    simp only [Option.map_some]
    have e2 : p.getD k tL.dflt = p[k] := by rw [List.getD_eq_getElem?_getD, List.getElem?_eq_getElem hk]; rfl
    rw [e2] at hw
    rw [if_pos ⟨by omega, hw, hS⟩]
    rfl
  · rw [if_neg e]
    unfold lessK
    rw [List.getElem?_mapIdx, List.getElem?_mapIdx]
    congr 1
    funext l
    have : (i < k ∧ writes l = true ∧ (i : Int) ∉ S) ↔ (i < k + 1 ∧ writes l = true ∧ (i : Int) ∉ S) := by
      constructor
      · rintro ⟨a, b⟩; exact ⟨by omega, b⟩
      · rintro ⟨a, b⟩; exact ⟨by omega, b⟩
    simp only [this]
theorem lessK_same {p : List Lin} {S : List Int} {k : Nat} (hk : k < p.length) (hw : writes (p.getD k tL.dflt) = false ∨ (k : Int) ∈ S) : lessK p S k = lessK p S (k + 1) := by
  unfold lessK
  apply List.ext_getElem?
  intro i
  rw [List.getElem?_mapIdx, List.getElem?_mapIdx]
  by_cases hi : i < p.length
  · rw [List.getElem?_eq_getElem hi]
    simp only [Option.map_some]
    by_cases e : i = k
    · subst e
      have e2 : p.getD i tL.dflt = p[i] := by rw [List.getD_eq_getElem?_getD, List.getElem?_eq_getElem hi]; rfl
      rw [e2] at hw
      rw [if_neg (by omega), if_neg (by rintro ⟨_, h1, h2⟩; rcases hw with h | h; rw [h] at h1; cases h1; exact h2 h)]
    · have : (i < k ∧ writes p[i] = true ∧ (i : Int) ∉ S) ↔ (i < k + 1 ∧ writes p[i] = true ∧ (i : Int) ∉ S) := by
        constructor
        · rintro ⟨a, b⟩; exact ⟨by omega, b⟩
        · rintro ⟨a, b⟩; exact ⟨by omega, b⟩
      simp only [this]
  · rw [List.getElem?_eq_none (by omega)]; rfl
theorem lessK_valid {p : List Lin} {S : List Int} {k : Nat} (h : p.all validLine = true) : (lessK p S k).all validLine = true := by
  rw [List.all_eq_true]
  intro l hl
  obtain ⟨i, hi, e⟩ := List.getElem_of_mem hl
  rw [lessK_len] at hi
  have := lessK_get p S k hi
  rw [List.getD_eq_getElem?_getD, List.getElem?_eq_getElem (by rw [lessK_len]; exact hi)] at this
  simp only [Option.getD_some] at this
  rw [e] at this
  rw [this]
  split
  · decide
  · exact validLine_at h hi
theorem lessK_validP {p : List Lin} {S : List Int} {k : Nat} (h : validP p = 0) : validP (lessK p S k) = 0 := by
  obtain ⟨h8, ha⟩ := validP_ok h
  unfold validP
  rw [if_neg (by rw [lessK_len]; omega), lessK_valid ha]; rfl
end Go.Tk
