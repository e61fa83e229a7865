/- Merged: P4s P4t C4o C4p C4q. -/
import Derived.Test.YtjimjngkeaaifaaGreatMg2
/- Plain facts of layer 4: the document's answers, and the laws. No program in sight. -/
set_option linter.unusedSimpArgs false
set_option linter.unusedVariables false
set_option linter.unnecessarySimpa false
namespace Go.Tk
open Go Go.RowKit
theorem ext_getD {α : Type} (d : α) {a b : List α} (hl : a.length = b.length) (h : ∀ i, i < a.length → a.getD i d = b.getD i d) : a = b := by
  refine List.ext_getElem hl fun i h1 h2 => ?_
  have := h i h1
  rw [List.getD_eq_getElem?_getD, List.getD_eq_getElem?_getD, List.getElem?_eq_getElem h1, List.getElem?_eq_getElem h2] at this
  exact this
theorem nat_of {k : Int} (h : 0 ≤ k) : ∃ i : Nat, k = (i : Int) := ⟨k.toNat, by omega⟩
/-! ### Tables by place -/
def tabE (f : Int → Option Lin) : Nat → List (Int × Lin)
  | 0 => []
  | i + 1 => tabE f i ++ (match f i with | some l => [((i : Int), l)] | none => [])
theorem tabE_mem {f : Int → Option Lin} {k : Int} {l : Lin} : ∀ {n : Nat}, (k, l) ∈ tabE f n ↔ (0 ≤ k ∧ k < n ∧ f k = some l)
  | 0 => by simp [tabE]; omega
  | n + 1 => by
    rw [tabE, List.mem_append, tabE_mem]
    constructor
    · rintro (⟨h1, h2, h3⟩ | h)
      · exact ⟨h1, by omega, h3⟩
      · cases e : f n with
        | none => rw [e] at h; cases h
        | some m =>
          rw [e] at h
          simp only [List.mem_singleton, Prod.mk.injEq] at h
          obtain ⟨rfl, rfl⟩ := h
          exact ⟨by omega, by omega, e⟩
    · rintro ⟨h1, h2, h3⟩
      by_cases e : k = (n : Int)
      · subst e
        rw [h3]; exact .inr (by simp)
      · exact .inl ⟨h1, by omega, h3⟩
theorem tabE_asc (f : Int → Option Lin) : ∀ n, Asc (tabE f n)
  | 0 => List.Pairwise.nil
  | n + 1 => by
    unfold Asc tabE
    rw [List.pairwise_append]
    refine ⟨tabE_asc f n, ?_, ?_⟩
    · cases f n <;> simp
    · intro a ha b hb
      have h1 := (tabE_mem (k := a.1) (l := a.2)).1 ha
      cases e : f n with
      | none => rw [e] at hb; cases hb
      | some m =>
        rw [e] at hb
        simp only [List.mem_singleton] at hb
        subst hb
        exact h1.2.1
theorem tabE_len (f : Int → Option Lin) : ∀ n, (tabE f n).length ≤ n
  | 0 => Nat.le_refl _
  | n + 1 => by
    have := tabE_len f n
    rw [tabE, List.length_append]
    cases f n <;> simp <;> omega
theorem asc_mem {E F : List (Int × Lin)} (hE : Asc E) (hF : Asc F) (h : ∀ k l, (k, l) ∈ E ↔ (k, l) ∈ F) : E = F := by
  refine asc_ext hE hF fun k => ?_
  refine Option.ext fun l => ?_
  rw [look_mem hE, look_mem hF, h]
theorem tabE_eq {E : List (Int × Lin)} {f : Int → Option Lin} {n : Nat} (hE : Asc E) (hb : ∀ e ∈ E, 0 ≤ e.1 ∧ e.1 < n) (hf : ∀ k, f k = lookE E k) : tabE f n = E := by
  refine asc_mem (tabE_asc f n) hE fun k l => ?_
  rw [tabE_mem, hf, look_mem hE]
  exact ⟨fun h => h.2.2, fun h => ⟨(hb _ h).1, (hb _ h).2, h⟩⟩
def thnF (x y : List Edt) (k : Int) : Option Lin := match lookE (readE y) k with | some l => some l | none => lookE (readE x) k
theorem read_mem {x : List Edt} {k : Int} {l : Lin} : (k, l) ∈ readE x ↔ ((k, l, ()) : Edt) ∈ x := by
  unfold readE
  rw [List.mem_map]
  constructor
  · rintro ⟨⟨a, b, ⟨⟩⟩, h, e⟩
    cases e; exact h
  · intro h; exact ⟨_, h, rfl⟩
theorem read_edit (E : List (Int × Lin)) : readE (editE E) = E := by unfold readE editE; rw [List.map_map]; exact List.map_id' _
theorem edit_read (x : List Edt) : editE (readE x) = x := by
  unfold readE editE; rw [List.map_map]; exact List.map_id' _
theorem edit_len (E : List (Int × Lin)) : (editE E).length = E.length := by simp [editE]
theorem read_len (x : List Edt) : (readE x).length = x.length := by simp [readE]
theorem edit_app (E F : List (Int × Lin)) : editE (E ++ F) = editE E ++ editE F := by simp [editE]
theorem read_at {x : List Edt} {i : Nat} (h : i < x.length) : (readE x).getD i (0, tL.dflt) = ((x.getD i tEd.dflt).1, (x.getD i tEd.dflt).2.1) := by
  unfold readE
  rw [List.getD_eq_getElem?_getD, List.getElem?_map, List.getElem?_eq_getElem h, List.getD_eq_getElem?_getD, List.getElem?_eq_getElem h]; rfl
theorem ext_play {p q : List Lin} {x y : List Edt} (hx : Asc (readE x)) (hy : Asc (readE y)) (ix : inX p.length x) (iy : inX q.length y) (hl : p.length = q.length)
    (h : ∀ i : Nat, i < p.length → (match lookE (readE x) i with | some l => l | none => p.getD i tL.dflt) = (match lookE (readE y) i with | some l => l | none => q.getD i tL.dflt)) : playX p x = playX q y := by
  refine ext_getD tL.dflt (by rw [playX_len, playX_len, hl]) fun i hi => ?_
  rw [playX_len] at hi
  rw [play_look x p i _ hx ix hi, play_look y q i _ hy iy (by omega)]
  exact h i hi
theorem play_at {p q : List Lin} {x : List Edt} (hx : Asc (readE x)) (ix : inX p.length x) (hl : p.length = q.length)
    (h : ∀ i : Nat, i < p.length → (match lookE (readE x) i with | some l => l | none => p.getD i tL.dflt) = q.getD i tL.dflt) : playX p x = q :=
  ext_play (y := []) (q := q) hx List.Pairwise.nil ix (fun e he => by cases he) hl h
theorem inX_read {n : Nat} {x : List Edt} : inX n x ↔ ∀ e ∈ readE x, 0 ≤ e.1 ∧ e.1 < n := by
  unfold inX readE
  constructor
  · intro h e he
    obtain ⟨a, ha, rfl⟩ := List.mem_map.1 he
    exact h a ha
  · intro h e he
    exact h _ (List.mem_map_of_mem he)
theorem look_inX {n : Nat} {x : List Edt} (h : inX n x) {k : Int} {l : Lin} (hk : lookE (readE x) k = some l) : 0 ≤ k ∧ k < n := inX_read.1 h _ (look_in hk)
theorem look_line {x : List Edt} (h : ∀ e ∈ x, validLine e.2.1 = true) {k : Int} {l : Lin} (hk : lookE (readE x) k = some l) : validLine l = true := by
  have := look_in hk
  rw [read_mem] at this
  exact h _ this
/-- A table that is right as a patch. -/
theorem validX_edit {E : List (Int × Lin)} (h1 : E.length ≤ 4) (h2 : Asc E) (h3 : ∀ k l, (k, l) ∈ E → (0 ≤ k ∧ k < 8) ∧ validLine l = true) : validX (editE E) = 0 := by
  refine validX_mk (by rw [edit_len]; exact h1) (fun e he => ?_) (by rw [read_edit]; exact h2)
  obtain ⟨⟨k, l⟩, hk, rfl⟩ := List.mem_map.1 he
  exact h3 k l hk
theorem validP_line {p : List Lin} (h : validP p = 0) {i : Nat} (hi : i < p.length) : validLine (p.getD i tL.dflt) = true := List.all_eq_true.1 (validP_ok h).2 _ (mem_getD hi)
/-! ### Undo -/
theorem inv_read (p : List Lin) (x : List Edt) : readE (invX p x) = (readE x).map fun e => (e.1, p.getD e.1.toNat tL.dflt) := by
  unfold readE invX
  rw [List.map_map, List.map_map]; rfl
theorem look_inv (p : List Lin) (k : Int) : ∀ E : List (Int × Lin), lookE (E.map fun e => (e.1, p.getD e.1.toNat tL.dflt)) k = (lookE E k).map fun _ => p.getD k.toNat tL.dflt
  | [] => rfl
  | (a, m) :: E => by
    rw [List.map_cons]
    simp only [lookE]
    by_cases e : a = k
    · rw [if_pos e, if_pos e, e]; rfl
    · rw [if_neg e, if_neg e, look_inv p k E]
theorem inv_asc {p : List Lin} {x : List Edt} (h : Asc (readE x)) : Asc (readE (invX p x)) := by
  rw [inv_read]
  unfold Asc
  rw [List.pairwise_map]
  exact h
theorem inv_in {n : Nat} {p : List Lin} {x : List Edt} (h : inX n x) : inX n (invX p x) := by
  intro e he
  obtain ⟨a, ha, rfl⟩ := List.mem_map.1 he
  exact h a ha
theorem inv_errX {p : List Lin} {x : List Edt} (h : errX p x = 0) : errX (playX p x) (invX p x) = 0 := by
  obtain ⟨h1, h2, h3⟩ := errX_ok h
  have h4 := validX_ok h2
  refine errX_mk (errX_play h) (validX_mk ?_ ?_ (inv_asc (validX_asc h2))) (by rw [playX_len]; exact inv_in h3)
  · unfold invX; rw [List.length_map]; exact h4.1
  · intro e he
    obtain ⟨a, ha, rfl⟩ := List.mem_map.1 he
    have ha2 := h3 a ha
    exact ⟨h4.2 a ha, validP_line h1 (i := a.1.toNat) (by omega)⟩
theorem undo_play {p : List Lin} {x : List Edt} (h : errX p x = 0) : playX (playX p x) (invX p x) = p := by
  obtain ⟨h1, h2, h3⟩ := errX_ok h
  have ha := validX_asc h2
  refine play_at (inv_asc ha) (by rw [playX_len]; exact inv_in h3) (playX_len x p) fun i hi => ?_
  rw [playX_len] at hi
  rw [inv_read, look_inv, play_look x p i _ ha h3 hi]
  cases lookE (readE x) i with
  | none => rfl
  | some l => show p.getD (Int.toNat (i : Int)) tL.dflt = _; rw [Int.toNat_natCast]
theorem undo_inv {p : List Lin} {x : List Edt} (h : errX p x = 0) : invX (playX p x) (invX p x) = x := by
  obtain ⟨h1, h2, h3⟩ := errX_ok h
  have ha := validX_asc h2
  unfold invX
  rw [List.map_map]
  have : ∀ e ∈ x, (invE (playX p x) ∘ invE p) e = e := by
    rintro ⟨k, l, ⟨⟩⟩ he
    have h4 := h3 _ he
    obtain ⟨i, rfl⟩ := nat_of h4.1
    show ((i : Int), (playX p x).getD (Int.toNat (i : Int)) tL.dflt, ()) = _
    rw [Int.toNat_natCast, play_look x p i _ ha h3 (by have := h4.2; simp at this; omega), (look_mem ha).2 (read_mem.2 he)]
  rw [List.map_congr_left this]; exact List.map_id' _
/-! ### Clean -/
theorem clean_sub (p : List Lin) (x : List Edt) : (cleanX p x).Sublist x := List.filter_sublist
theorem clean_err {p : List Lin} {x : List Edt} (h : errX p x = 0) : errX p (cleanX p x) = 0 := errXT_sub h (clean_sub p x)
theorem clean_size (p : List Lin) : ∀ x : List Edt, sizeX p (cleanX p x) = sizeX p x
  | [] => rfl
  | e :: x => by
    unfold cleanX
    by_cases h : sameE p e = true
    · rw [List.filter_cons_of_neg (by rw [h]; simp), sizeX]
      have := clean_size p x
      unfold cleanX at this
      rw [this, fieldsN_zero.2 (of_decide_eq_true h)]; omega
    · rw [List.filter_cons_of_pos (by simpa using h), sizeX, sizeX]
      have := clean_size p x
      unfold cleanX at this
      rw [this]
theorem clean_count (p : List Lin) : ∀ x : List Edt, ((cleanX p x).length : Int) ≤ sizeX p (cleanX p x)
  | [] => by simp [cleanX, sizeX]
  | e :: x => by
    have ih := clean_count p x
    unfold cleanX at ih ⊢
    by_cases h : sameE p e = true
    · rw [List.filter_cons_of_neg (by rw [h]; simp)]; exact ih
    · rw [List.filter_cons_of_pos (by simpa using h), sizeX, List.length_cons]
      have h1 := fieldsN_bd (p.getD e.1.toNat tL.dflt) e.2.1
      have h2 : fieldsN (p.getD e.1.toNat tL.dflt) e.2.1 ≠ 0 := fun g => h (decide_eq_true (fieldsN_zero.1 g))
      omega
theorem clean_mem {p : List Lin} {x : List Edt} {k : Int} {l : Lin} : (k, l) ∈ readE (cleanX p x) ↔ (k, l) ∈ readE x ∧ p.getD k.toNat tL.dflt ≠ l := by
  rw [read_mem, read_mem]
  unfold cleanX sameE
  rw [List.mem_filter]
  simp
theorem clean_asc {p : List Lin} {x : List Edt} (h : Asc (readE x)) : Asc (readE (cleanX p x)) := asc_map.2 ((asc_map.1 h).sublist (clean_sub p x))
theorem clean_play {p : List Lin} {x : List Edt} (h : errX p x = 0) : playX p (cleanX p x) = playX p x := by
  obtain ⟨h1, h2, h3⟩ := errX_ok h
  have ha := validX_asc h2
  have hc := clean_asc (p := p) ha
  refine ext_play hc ha (fun e he => h3 e ((clean_sub p x).subset he)) h3 rfl fun i hi => ?_
  cases e : lookE (readE x) i with
  | none =>
    rw [show lookE (readE (cleanX p x)) i = none from ?_]
    cases e2 : lookE (readE (cleanX p x)) i with
    | none => rfl
    | some l =>
      have := (clean_mem.1 ((look_mem hc).1 e2)).1
      rw [← look_mem ha, e] at this; cases this
  | some l =>
    have hm := (look_mem ha).1 e
    by_cases g : p.getD i tL.dflt = l
    · cases e2 : lookE (readE (cleanX p x)) i with
      | none => exact g
      | some m =>
        have h5 := clean_mem.1 ((look_mem hc).1 e2)
        have h6 := h5.1
        rw [← look_mem ha, e] at h6
        cases h6; rfl
    · rw [(look_mem hc).2 (clean_mem.2 ⟨hm, by rw [Int.toNat_natCast]; exact g⟩)]
/-! ### Diff -/
theorem diff_mem {p q : List Lin} {n : Nat} {k : Int} {l : Lin} : (k, l) ∈ diffE p q n ↔ ∃ i : Nat, i < n ∧ k = i ∧ l = q.getD i tL.dflt ∧ p.getD i tL.dflt ≠ q.getD i tL.dflt := by
  unfold diffE
  rw [List.mem_map]
  constructor
  · rintro ⟨i, hi, e⟩
    rw [List.mem_filter] at hi
    cases e
    exact ⟨i, List.mem_range.1 hi.1, rfl, rfl, by simpa using hi.2⟩
  · rintro ⟨i, hi, rfl, rfl, h⟩
    exact ⟨i, List.mem_filter.2 ⟨List.mem_range.2 hi, by simpa using h⟩, rfl⟩
theorem diff_asc (p q : List Lin) : ∀ n, Asc (diffE p q n)
  | 0 => List.Pairwise.nil
  | n + 1 => by
    by_cases h : p.getD n tL.dflt = q.getD n tL.dflt
    · rw [diffE_succ, if_pos h]; exact diff_asc p q n
    · rw [← diffE_put h]; exact putE_asc (diff_asc p q n)
theorem diff_ok {p q : List Lin} (h : diffN p q = 0) : validP p = 0 ∧ validP q = 0 ∧ p.length = q.length ∧ (diffE p q q.length).length ≤ 4 ∧ diffX p q = editE (diffE p q q.length) := by
  unfold diffN at h
  split at h
  · rename_i h0
    split at h
    · rename_i h1
      unfold limN at h
      split at h
      · cases h
      · rename_i h2
        have : diffX p q = editE (diffE p q q.length) := by unfold diffX limE; rw [if_pos h0, if_pos h1, if_neg h2]
        unfold errPQ at h0
        split at h0
        · exact ⟨by assumption, h0, h1, by omega, this⟩
        · rename_i g; exact absurd h0 g
    · cases h
  · rename_i h0; exact absurd h h0
theorem diff_bd {p q : List Lin} {n : Nat} : ∀ e ∈ diffE p q n, 0 ≤ e.1 ∧ e.1 < (n : Int) := by
  rintro ⟨k, l⟩ h
  obtain ⟨i, hi, rfl, _⟩ := diff_mem.1 h
  exact ⟨by show (0 : Int) ≤ i; omega, by show (i : Int) < n; omega⟩
theorem diff_err {p q : List Lin} (h : diffN p q = 0) : errX p (diffX p q) = 0 := by
  obtain ⟨h1, h2, h3, h4, h5⟩ := diff_ok h
  have h8 := (validP_ok h2).1
  rw [h5]
  refine errX_mk h1 (validX_edit h4 (diff_asc p q _) fun k l hk => ?_) ?_
  · obtain ⟨i, hi, rfl, rfl, _⟩ := diff_mem.1 hk
    exact ⟨by omega, validP_line h2 hi⟩
  · rw [inX_read, read_edit, h3]; exact diff_bd
theorem diff_look {p q : List Lin} {i n : Nat} (hi : i < n) : lookE (diffE p q n) i = if p.getD i tL.dflt = q.getD i tL.dflt then none else some (q.getD i tL.dflt) := by
  refine Option.ext fun l => ?_
  rw [look_mem (diff_asc p q n), diff_mem]
  constructor
  · rintro ⟨j, h1, h2, rfl, h4⟩
    have : i = j := by omega
    subst this
    rw [if_neg h4]
  · intro h
    split at h
    · cases h
    · rename_i g; cases h; exact ⟨i, hi, rfl, rfl, g⟩
theorem diff_play {p q : List Lin} (h : diffN p q = 0) : playX p (diffX p q) = q := by
  obtain ⟨h1, h2, h3, h4, h5⟩ := diff_ok h
  rw [h5]
  refine play_at (by rw [read_edit]; exact diff_asc p q _) (by rw [inX_read, read_edit, h3]; exact diff_bd) h3 fun i hi => ?_
  rw [read_edit, diff_look (by omega)]
  split
  · rename_i l e
    split at e
    · cases e
    · cases e; rfl
  · rename_i e
    split at e
    · assumption
    · cases e
theorem diff_clean {p q : List Lin} (h : diffN p q = 0) : cleanX p (diffX p q) = diffX p q := by
  obtain ⟨h1, h2, h3, h4, h5⟩ := diff_ok h
  rw [h5]
  unfold cleanX
  rw [List.filter_eq_self]
  intro e he
  obtain ⟨⟨k, l⟩, hk, rfl⟩ := List.mem_map.1 he
  obtain ⟨i, hi, rfl, rfl, h6⟩ := diff_mem.1 hk
  unfold sameE
  simp only [Int.toNat_natCast, decide_eq_false h6, Bool.not_false]
/-- What differs after a patch is the patch without what changes nothing. -/
theorem diff_done {p : List Lin} {x : List Edt} (h : errX p x = 0) : diffE p (playX p x) (playX p x).length = readE (cleanX p x) := by
  obtain ⟨h1, h2, h3⟩ := errX_ok h
  have ha := validX_asc h2
  refine asc_mem (diff_asc _ _ _) (clean_asc ha) fun k l => ?_
  rw [diff_mem, clean_mem, playX_len]
  constructor
  · rintro ⟨i, hi, rfl, rfl, h5⟩
    have h6 := play_look x p i tL.dflt ha h3 hi
    cases e : lookE (readE x) i with
    | none => rw [e] at h6; exact absurd h6.symm h5
    | some l =>
      rw [e] at h6
      rw [h6] at h5 ⊢
      exact ⟨look_in e, by rw [Int.toNat_natCast]; exact h5⟩
  · rintro ⟨h4, h5⟩
    have h6 := inX_read.1 h3 _ h4
    obtain ⟨i, rfl⟩ := nat_of h6.1
    have hi : i < p.length := by have := h6.2; simp at this; omega
    have h7 := play_look x p i tL.dflt ha h3 hi
    rw [(look_mem ha).2 h4] at h7
    rw [Int.toNat_natCast] at h5
    exact ⟨i, hi, rfl, h7.symm, by rw [h7]; exact h5⟩
/-! ### Then, Merge -/
theorem then_look {x y : List Edt} (hx : validX x = 0) (hy : validX y = 0) (k : Int) : lookE (thenE x y) k = thnF x y k :=
  (look_merge (validX_asc hx) (validX_asc hy)).trans (by unfold thnF; cases lookE (readE y) k <;> rfl)
theorem then_asc {x y : List Edt} (hx : validX x = 0) : Asc (thenE x y) := merge_asc (validX_asc hx)
theorem thnF_or {x y : List Edt} {k : Int} {l : Lin} (h : thnF x y k = some l) : lookE (readE x) k = some l ∨ lookE (readE y) k = some l := by
  unfold thnF at h
  split at h
  · rename_i m e; cases h; exact .inr e
  · exact .inl h
theorem then_bd {x y : List Edt} {n : Nat} (hx : validX x = 0) (hy : validX y = 0) (ix : inX n x) (iy : inX n y) : ∀ e ∈ thenE x y, 0 ≤ e.1 ∧ e.1 < (n : Int) := by
  rintro ⟨k, l⟩ h
  rw [← look_mem (then_asc hx), then_look hx hy] at h
  rcases thnF_or h with h | h
  · exact look_inX ix h
  · exact look_inX iy h
theorem valid_in {x : List Edt} (h : validX x = 0) : inX 8 x := fun e he => (validX_ok h).2 e he
theorem then_tab {x y : List Edt} (hx : validX x = 0) (hy : validX y = 0) : tabE (thnF x y) 8 = thenE x y :=
  tabE_eq (then_asc hx) (then_bd hx hy (valid_in hx) (valid_in hy)) fun k => (then_look hx hy k).symm
theorem then_valid {x y : List Edt} (hx : validX x = 0) (hy : validX y = 0) (h4 : (thenE x y).length ≤ 4) : validX (editE (thenE x y)) = 0 := by
  refine validX_edit h4 (then_asc hx) fun k l hk => ?_
  refine ⟨then_bd hx hy (valid_in hx) (valid_in hy) _ hk, ?_⟩
  rw [← look_mem (then_asc hx), then_look hx hy] at hk
  rcases thnF_or hk with h | h
  · exact look_line (validX_line4 hx) h
  · exact look_line (validX_line4 hy) h
theorem then_err {p : List Lin} {x y : List Edt} (hp : validP p = 0) (hx : validX x = 0) (hy : validX y = 0) (ix : inX p.length x) (iy : inX p.length y) (h4 : (thenE x y).length ≤ 4) : errX p (editE (thenE x y)) = 0 :=
  errX_mk hp (then_valid hx hy h4) (by rw [inX_read, read_edit]; exact then_bd hx hy ix iy)
theorem then_play {p : List Lin} {x y : List Edt} (hx : validX x = 0) (hy : validX y = 0) (ix : inX p.length x) (iy : inX p.length y) : playX p (editE (thenE x y)) = playX (playX p x) y := by
  refine ext_play (by rw [read_edit]; exact then_asc hx) (validX_asc hy) (by rw [inX_read, read_edit]; exact then_bd hx hy ix iy) (by rw [playX_len]; exact iy) (by rw [playX_len]) fun i hi => ?_
  rw [read_edit, then_look hx hy, play_look x p i _ (validX_asc hx) ix hi]
  unfold thnF
  cases lookE (readE y) i with
  | some l => rfl
  | none => rfl
theorem clash_iff {x y : List Edt} (hx : validX x = 0) (hy : validX y = 0) : y.any (clashE (readE x)) = true ↔ ∃ k l m, lookE (readE x) k = some l ∧ lookE (readE y) k = some m ∧ l ≠ m := by
  rw [List.any_eq_true]
  constructor
  · rintro ⟨⟨k, m, ⟨⟩⟩, he, h⟩
    unfold clashE at h
    cases e : lookE (readE x) k with
    | none => simp only [e] at h; cases h
    | some l =>
      simp only [e] at h
      exact ⟨k, l, m, e, (look_mem (validX_asc hy)).2 (read_mem.2 he), by simpa using h⟩
  · rintro ⟨k, l, m, h1, h2, h3⟩
    refine ⟨(k, m, ()), read_mem.1 (look_in h2), ?_⟩
    unfold clashE
    simp only [h1]
    simpa using h3
theorem clash_comm {x y : List Edt} (hx : validX x = 0) (hy : validX y = 0) : x.any (clashE (readE y)) = y.any (clashE (readE x)) := by
  rw [Bool.eq_iff_iff, clash_iff hx hy, clash_iff hy hx]
  constructor
  · rintro ⟨k, l, m, h1, h2, h3⟩; exact ⟨k, m, l, h2, h1, fun e => h3 e.symm⟩
  · rintro ⟨k, l, m, h1, h2, h3⟩; exact ⟨k, m, l, h2, h1, fun e => h3 e.symm⟩
theorem then_comm {x y : List Edt} (hx : validX x = 0) (hy : validX y = 0) (h : y.any (clashE (readE x)) = false) : thenE y x = thenE x y := by
  refine asc_ext (then_asc hy) (then_asc hx) fun k => ?_
  rw [then_look hy hx, then_look hx hy]
  unfold thnF
  cases e1 : lookE (readE x) k with
  | none =>
    cases e2 : lookE (readE y) k with
    | none => rfl
    | some m => rfl
  | some l =>
    cases e2 : lookE (readE y) k with
    | none => rfl
    | some m =>
      by_cases g : l = m
      · rw [g]
      · have := (clash_iff hx hy).2 ⟨k, l, m, e1, e2, g⟩
        rw [h] at this; cases this
theorem merge_ok {x y : List Edt} (h : mergeN x y = 0) : validX x = 0 ∧ validX y = 0 ∧ y.any (clashE (readE x)) = false ∧ (thenE x y).length ≤ 4 ∧ mergeX x y = editE (thenE x y) := by
  unfold mergeN at h
  split at h
  · rename_i h0
    split at h
    · cases h
    · rename_i h1
      unfold limN at h
      split at h
      · cases h
      · rename_i h2
        refine ⟨(bothX_ok h0).1, (bothX_ok h0).2, by simpa using h1, by omega, ?_⟩
        unfold mergeX limE
        rw [if_pos h0, if_neg h1, if_neg h2]
  · rename_i h0; exact absurd h h0
theorem both_of {x y : List Edt} (hx : validX x = 0) (hy : validX y = 0) : bothX x y = 0 := by unfold bothX; rw [if_pos hx]; exact hy
theorem limN_ok {E : List (Int × Lin)} (h : E.length ≤ 4) : limN E = 0 ∧ limE E = editE E := by
  unfold limN limE
  rw [if_neg (by omega), if_neg (by omega)]; exact ⟨rfl, rfl⟩
theorem limN_iff {E : List (Int × Lin)} (h : limN E = 0) : E.length ≤ 4 := by
  unfold limN at h
  split at h
  · cases h
  · omega
/-! ### Keep -/
theorem touch_ok {x : List Edt} (h : validX x = 0) : okPl (x.map (·.1)) (x.map (·.1)).length = true := by
  have h1 := validX_ok h
  have ha := asc_map.1 (validX_asc h)
  rw [List.length_map]
  have g : ∀ j, j < x.length → (x.map (·.1)).getD j 0 = (x.getD j tEd.dflt).1 := by
    intro j hj
    rw [List.getD_eq_getElem?_getD, List.getElem?_map, List.getElem?_eq_getElem hj, List.getD_eq_getElem?_getD, List.getElem?_eq_getElem hj]; rfl
  have key : ∀ i, i ≤ x.length → okPl (x.map (·.1)) i = true := by
    intro i
    induction i with
    | zero => intro _; rfl
    | succ i ih =>
      intro hi
      rw [okPl, ih (by omega), Bool.true_and, g i (by omega)]
      have hm := h1.2 _ (mem_getD (d := tEd.dflt) (show i < x.length by omega))
      rw [decide_eq_false (show ¬ (x.getD i tEd.dflt).1 < 0 by omega), decide_eq_false (show ¬ (x.getD i tEd.dflt).1 ≥ 8 by omega)]
      by_cases hz : i > 0
      · rw [g (i - 1) (by omega)]
        have := List.pairwise_iff_getElem.1 ha (i - 1) i (by omega) (by omega) (by omega)
        have g1 : x.getD (i - 1) tEd.dflt = x[i - 1] := by rw [List.getD_eq_getElem?_getD, List.getElem?_eq_getElem (by omega)]; rfl
        have g2 : x.getD i tEd.dflt = x[i] := by rw [List.getD_eq_getElem?_getD, List.getElem?_eq_getElem (by omega)]; rfl
        rw [g1, g2, decide_eq_false (show ¬ (x[i - 1]).1 ≥ (x[i]).1 by omega)]
        simp
      · rw [decide_eq_false hz]; rfl
  exact key _ (Nat.le_refl _)
theorem keep_all {x : List Edt} (h : validX x = 0) : keepN x (x.map (·.1)) = 0 ∧ keepX x (x.map (·.1)) = x := by
  have e : keepN x (x.map (·.1)) = 0 := by unfold keepN; rw [if_pos h, touch_ok h]; rfl
  refine ⟨e, ?_⟩
  unfold keepX
  rw [if_pos e, List.filter_eq_self]
  intro a ha
  exact decide_eq_true (List.mem_map_of_mem ha)
/-! ### Three -/
theorem threeL_comm (b a c : List Lin) (i : Nat) : threeL b c a i = threeL b a c i := by
  unfold threeL
  generalize a.getD i tL.dflt = u, b.getD i tL.dflt = v, c.getD i tL.dflt = w
  by_cases h1 : w = v
  · by_cases h2 : u = w
    · simp [h1, h2]
    · subst h1; simp [h2]
  · by_cases h2 : u = w
    · subst h2; simp
    · have h2' : ¬ w = u := fun e => h2 e.symm
      by_cases h3 : u = v
      · subst h3; simp [h1, h2]
      · simp [h1, h2, h2', h3]
theorem threeC_comm (b a c : List Lin) (i : Nat) : threeC b c a i = threeC b a c i := by
  unfold threeC
  generalize a.getD i tL.dflt = u, b.getD i tL.dflt = v, c.getD i tL.dflt = w
  have e : (w = u) = (u = w) := propext eq_comm
  simp only [e]
  cases decide (w = v) <;> cases decide (u = w) <;> cases decide (u = v) <;> rfl
theorem threeP_comm (b a c : List Lin) (n : Nat) : threeP b c a n = threeP b a c n := by
  unfold threeP; exact List.map_congr_left fun i _ => threeL_comm b a c i
theorem threeI_comm (b a c : List Lin) (n : Nat) : threeI b c a n = threeI b a c n := by
  unfold threeI
  congr 1
  exact List.filter_congr fun i _ => threeC_comm b a c i
theorem threeP_base {b a : List Lin} (h : a.length = b.length) : threeP b a b b.length = a := by
  refine ext_getD tL.dflt (by rw [threeP_len, h]) fun i hi => ?_
  rw [threeP_len] at hi
  unfold threeP
  rw [List.getD_eq_getElem?_getD, List.getElem?_map, List.getElem?_range hi]
  show threeL b a b i = _
  unfold threeL
  rw [if_pos (.inl rfl)]
theorem threeI_base (b a : List Lin) (n : Nat) : threeI b a b n = [] := by
  unfold threeI threeC
  simp
theorem three_ok {b a c : List Lin} (h : threeN b a c = 0) : validP b = 0 ∧ validP a = 0 ∧ validP c = 0 ∧ a.length = b.length ∧ c.length = b.length := by
  unfold threeN at h
  split at h
  · rename_i h0
    split at h
    · rename_i h1
      unfold err3 at h0
      split at h0
      · split at h0
        · exact ⟨by assumption, by assumption, h0, h1.1, h1.2⟩
        · rename_i g; exact absurd h0 g
      · rename_i g; exact absurd h0 g
    · cases h
  · rename_i h0; exact absurd h h0
theorem three_mk {b a c : List Lin} (h1 : validP b = 0) (h2 : validP a = 0) (h3 : validP c = 0) (h4 : a.length = b.length) (h5 : c.length = b.length) : threeN b a c = 0 := by
  have e : err3 b a c = 0 := by unfold err3; rw [if_pos h1, if_pos h2]; exact h3
  unfold threeN
  rw [if_pos e, if_pos ⟨h4, h5⟩]
end Go.Tk
/- Plain facts of layer 4: which tests turn, reduced patches, the smallest part. No program in sight. -/
set_option linter.unusedSimpArgs false
set_option linter.unusedVariables false
set_option linter.unnecessarySimpa false
namespace Go.Tk
open Go Go.RowKit
theorem where_mem {f : Tst → Bool} {l : List Tst} {k : Nat} : ∀ {n : Nat}, (k : Int) ∈ whereTo f l n ↔ (k < n ∧ f (l.getD k tTs.dflt) = true)
  | 0 => by simp [whereTo]
  | n + 1 => by
    rw [whereTo, List.mem_append, where_mem]
    constructor
    · rintro (⟨h1, h2⟩ | h)
      · exact ⟨by omega, h2⟩
      · split at h
        · simp only [List.mem_singleton] at h
          have : k = n := by omega
          subst this
          exact ⟨by omega, by assumption⟩
        · cases h
    · rintro ⟨h1, h2⟩
      by_cases e : k = n
      · subst e
        rw [if_pos h2]; exact .inr (by simp)
      · exact .inl ⟨by omega, h2⟩
theorem where_filter (f g : Tst → Bool) (l : List Tst) : ∀ n, n ≤ l.length → (whereTo f l n).filter (fun i => decide (i ∈ whereL g l)) = whereTo (fun t => f t && g t) l n
  | 0, _ => rfl
  | n + 1, h => by
    rw [whereTo, List.filter_append, where_filter f g l n (by omega), whereTo]
    congr 1
    have hm : ((n : Int) ∈ whereL g l) ↔ g (l.getD n tTs.dflt) = true := by
      unfold whereL
      rw [where_mem]
      exact ⟨fun h => h.2, fun e => ⟨by omega, e⟩⟩
    cases e1 : f (l.getD n tTs.dflt)
    · simp
    · rw [if_pos rfl]
      cases e2 : g (l.getD n tTs.dflt)
      · rw [List.filter_cons_of_neg (by rw [decide_eq_true_eq, hm, e2]; simp)]; simp
      · rw [List.filter_cons_of_pos (by rw [decide_eq_true_eq, hm, e2])]; simp
theorem turned_where (p q : List Lin) (l : List Tst) : turnedL p q l = whereL (fun t => !passT p t && passT q t) l := by
  unfold turnedL failL
  exact where_filter _ _ _ _ (Nat.le_refl _)
theorem turn_count (f g : Tst → Bool) (l : List Tst) : ∀ n, ((whereTo (fun t => !g t) l n).length : Int) = (whereTo (fun t => !f t) l n).length - (whereTo (fun t => !f t && g t) l n).length + (whereTo (fun t => !g t && f t) l n).length
  | 0 => rfl
  | n + 1 => by
    simp only [whereTo, List.length_append, Int.natCast_add]
    rw [turn_count f g l n]
    have key : ∀ u v : Bool, (((if (!v) = true then [(n : Int)] else []).length : Nat) : Int) = ((if (!u) = true then [(n : Int)] else []).length : Nat) - ((if (!u && v) = true then [(n : Int)] else []).length : Nat) + ((if (!v && u) = true then [(n : Int)] else []).length : Nat) := by
      intro u v; cases u <;> cases v <;> rfl
    have := key (f (l.getD n tTs.dflt)) (g (l.getD n tTs.dflt))
    omega
theorem fail_count (p q : List Lin) (l : List Tst) : ((failL q l).length : Int) = (failL p l).length - (turnedL p q l).length + (turnedL q p l).length := by
  rw [turned_where, turned_where]
  unfold failL whereL
  exact turn_count (passT p) (passT q) l l.length
theorem where_nil {f : Tst → Bool} {l : List Tst} (h : whereL f l = []) : ∀ t ∈ l, f t = false := by
  intro t ht
  obtain ⟨i, hi, rfl⟩ := List.getElem_of_mem ht
  cases e : f l[i]
  · rfl
  · have : (i : Int) ∈ whereL f l := by
      unfold whereL
      rw [where_mem]
      refine ⟨hi, ?_⟩
      rw [List.getD_eq_getElem?_getD, List.getElem?_eq_getElem hi]; exact e
    rw [h] at this; cases this
theorem good_all {p : List Lin} {x : List Edt} {l : List Tst} : goodX p x l = l.all (passT (playX p x)) := by
  unfold goodX
  rw [Bool.eq_iff_iff, List.all_eq_true, List.isEmpty_iff]
  constructor
  · intro h t ht
    have := where_nil h t ht
    simpa using this
  · intro h
    unfold failL whereL
    rw [whereTo_congr l l.length (Nat.le_refl _) (g := fun _ => false) fun t ht => by rw [h t ht]; rfl]
    generalize l.length = n
    induction n with
    | zero => rfl
    | succ n ih => rw [whereTo, ih]; rfl
theorem good_fixed {p : List Lin} {x : List Edt} {l : List Tst} (h : goodX p x l = true) : turnedL p (playX p x) l = failL p l ∧ turnedL (playX p x) p l = [] := by
  have hg := h
  rw [good_all, List.all_eq_true] at h
  rw [turned_where, turned_where]
  constructor
  · unfold failL whereL
    exact whereTo_congr l _ (Nat.le_refl _) fun t ht => by rw [h t ht, Bool.and_true]
  · have e : failL (playX p x) l = [] := List.isEmpty_iff.1 hg
    unfold whereL
    rw [whereTo_congr l _ (Nat.le_refl _) (g := fun t => !passT (playX p x) t) fun t ht => by rw [h t ht]; rfl]
    exact e
/-- The document's turned tests. -/
def passE (p : List Lin) (t : Tst) : Bool := errT [p] [t] == 0 && passT p t
theorem passE_eq {p : List Lin} {l : List Tst} (hp : validP p = 0) (hl : validT l = 0) : ∀ t ∈ l, passE p t = passT p t := by
  intro t ht
  have h1 : errT [p] [t] = 0 := by
    unfold errT firstErr firstErr
    rw [if_pos hp, if_pos rfl]
    unfold validT
    rw [if_neg (by simp), List.all_cons, (validT_ok hl).2 t ht]; rfl
  unfold passE
  rw [h1]; rfl
def turnR (p q : List Lin) (b : Bool) (t : Tst) : Bool := (passE p t == b) && !(passE q t == b)
theorem turnR_fix {p q : List Lin} {l : List Tst} (hp : validP p = 0) (hq : validP q = 0) (hl : validT l = 0) : whereL (turnR p q false) l = turnedL p q l := by
  rw [turned_where]
  unfold whereL
  refine whereTo_congr l _ (Nat.le_refl _) fun t ht => ?_
  unfold turnR
  rw [passE_eq hp hl t ht, passE_eq hq hl t ht]
  cases passT p t <;> cases passT q t <;> rfl
theorem turnR_brk {p q : List Lin} {l : List Tst} (hp : validP p = 0) (hq : validP q = 0) (hl : validT l = 0) : whereL (turnR p q true) l = turnedL q p l := by
  rw [turned_where]
  unfold whereL
  refine whereTo_congr l _ (Nat.le_refl _) fun t ht => ?_
  unfold turnR
  rw [passE_eq hp hl t ht, passE_eq hq hl t ht]
  cases passT p t <;> cases passT q t <;> rfl
theorem all_pass {p : List Lin} {x : List Edt} {l : List Tst} (hq : validP (playX p x) = 0) (hl : validT l = 0) : l.all (passE (playX p x)) = goodX p x l := by
  rw [good_all, Bool.eq_iff_iff, List.all_eq_true, List.all_eq_true]
  constructor
  · intro h t ht; rw [← passE_eq hq hl t ht]; exact h t ht
  · intro h t ht; rw [passE_eq hq hl t ht]; exact h t ht
/-! ### Reduce -/
def redTo (p : List Lin) (l : List Tst) : Nat → List Edt → List Edt
  | 0, o => o
  | i + 1, o => redTo p l i (if goodX p (o.eraseIdx i) l = true then o.eraseIdx i else o)
def redX (p : List Lin) (x : List Edt) (l : List Tst) : List Edt := redTo p l x.length x
theorem redTo_ok {p : List Lin} {l : List Tst} {x : List Edt} : ∀ {i : Nat} {o : List Edt}, o.Sublist x → goodX p o l = true → (redTo p l i o).Sublist x ∧ goodX p (redTo p l i o) l = true
  | 0, o, h1, h2 => ⟨h1, h2⟩
  | i + 1, o, h1, h2 => by
    rw [redTo]
    split
    · rename_i g; exact redTo_ok ((List.eraseIdx_sublist ..).trans h1) g
    · exact redTo_ok h1 h2
theorem redX_ok {p : List Lin} {x : List Edt} {l : List Tst} (h : goodX p x l = true) : (redX p x l).Sublist x ∧ goodX p (redX p x l) l = true := redTo_ok (List.Sublist.refl _) h
def redN (p : List Lin) (x : List Edt) (l : List Tst) : Int := if errXT p x l = 0 then (if goodX p x l = true then 0 else 6) else errXT p x l
theorem small_good {p : List Lin} {x : List Edt} {l : List Tst} (h : smallB p x l = true) : (smallX p x l).Sublist x ∧ goodX p (smallX p x l) l = true ∧ ∀ a, a.Sublist x → goodX p a l = true → (smallX p x l).length ≤ a.length := by
  have hne : goodL p x l ≠ [] := by
    unfold smallB at h
    simpa using h
  unfold smallX
  rw [if_neg hne]
  have := goodL_iff.1 (minL_mem hne)
  exact ⟨this.1, this.2, fun a h1 h2 => minL_le (goodL_iff.2 ⟨h1, h2⟩)⟩
theorem small_has {p : List Lin} {x a : List Edt} {l : List Tst} (h1 : a.Sublist x) (h2 : goodX p a l = true) : smallB p x l = true := by
  have : a ∈ goodL p x l := goodL_iff.2 ⟨h1, h2⟩
  unfold smallB
  rw [decide_eq_false (fun e => by rw [e] at this; cases this)]; rfl
theorem small_minimal {p : List Lin} {x : List Edt} {l : List Tst} (h : smallB p x l = true) : minimB p (smallX p x l) l = true := by
  obtain ⟨h1, h2, h3⟩ := small_good h
  rw [minimB_iff]
  refine ⟨h2, fun a ha hl => ?_⟩
  rw [← Bool.not_eq_true]
  intro hg
  have := h3 a (ha.trans h1) hg
  omega
theorem small_none {p : List Lin} {x : List Edt} {l : List Tst} (h : smallB p x l = false) : smallX p x l = [] := by
  unfold smallB at h
  unfold smallX
  rw [if_pos (by simpa using h)]
/-! ### The document's search for the smallest -/
def bestStep (p : List Lin) (l : List Tst) (s : List Edt × Bool) (a : List Edt) : List Edt × Bool :=
  if goodX p a l = true then (if s.2 = true then (minStep s.1 a, true) else (a, true)) else s
def bestTo (p : List Lin) (l : List Tst) (L : List (List Edt)) : Nat → List Edt × Bool
  | 0 => ([], false)
  | i + 1 => bestStep p l (bestTo p l L i) (L.getD i [])
def foldMin : List (List Edt) → List Edt × Bool
  | [] => ([], false)
  | a :: L => (L.foldl minStep a, true)
theorem foldMin_snoc (L : List (List Edt)) (a : List Edt) : foldMin (L ++ [a]) = if (foldMin L).2 = true then (minStep (foldMin L).1 a, true) else (a, true) := by
  cases L with
  | nil => rfl
  | cons b L =>
    show (List.foldl minStep b (L ++ [a]), true) = _
    rw [List.foldl_append]; rfl
theorem bestTo_fold (p : List Lin) (l : List Tst) (L : List (List Edt)) : ∀ i, i ≤ L.length → bestTo p l L i = foldMin ((L.take i).filter fun a => goodX p a l)
  | 0, _ => rfl
  | i + 1, h => by
    rw [bestTo, bestTo_fold p l L i (by omega), take_snoc [] (show i < L.length by omega), List.filter_append]
    unfold bestStep
    cases e : goodX p (L.getD i []) l
    · rw [List.filter_cons_of_neg (by rw [e]; simp), List.filter_nil, List.append_nil]; rfl
    · rw [List.filter_cons_of_pos (p := fun a => goodX p a l) e, List.filter_nil, foldMin_snoc]; rfl
theorem minTo_fold (l : List (List Edt)) (a : List Edt) : ∀ i, i ≤ l.length → minTo (a :: l) i = (l.take i).foldl minStep a
  | 0, _ => rfl
  | i + 1, h => by
    rw [take_snoc [] (show i < l.length by omega), List.foldl_append, ← minTo_fold l a i (by omega)]
    show minStep (minTo (a :: l) i) ((a :: l).getD (i + 1) []) = _
    rfl
theorem foldMin_small (p : List Lin) (x : List Edt) (l : List Tst) : foldMin (goodL p x l) = (smallX p x l, smallB p x l) := by
  unfold smallX smallB
  cases e : goodL p x l with
  | nil => rfl
  | cons a L =>
    rw [if_neg (by simp)]
    have : minL (a :: L) = L.foldl minStep a := by
      have := minTo_fold L a L.length (Nat.le_refl _)
      rw [List.take_length] at this
      exact this
    rw [this]; rfl
theorem best_small (p : List Lin) (x : List Edt) (l : List Tst) : bestTo p l (partsL x) (partsL x).length = (smallX p x l, smallB p x l) := by
  rw [bestTo_fold p l _ _ (Nat.le_refl _), List.take_length]
  exact foldMin_small p x l
/-- The document's test whether no shorter part is good. -/
theorem minim_all (p : List Lin) (x : List Edt) (l : List Tst) : minimB p x l = (goodX p x l && !((partsL x).any fun a => decide (a.length < x.length) && goodX p a l)) := by
  rw [Bool.eq_iff_iff, minimB_iff, Bool.and_eq_true, Bool.not_eq_true', List.any_eq_false]
  constructor
  · rintro ⟨h1, h2⟩
    refine ⟨h1, fun a ha => ?_⟩
    rw [partsL_iff] at ha
    by_cases e : a.length < x.length
    · rw [h2 a ha e]; simp
    · rw [decide_eq_false e]; simp
  · rintro ⟨h1, h2⟩
    refine ⟨h1, fun a ha e => ?_⟩
    have := h2 a (partsL_iff.2 ha)
    rw [decide_eq_true e] at this
    simpa using this
theorem sub_map {x y : List Edt} (h : x.Sublist y) : (x.map (·.1)).Sublist (y.map (·.1)) := h.map _
end Go.Tk
/- Layer 4: the document's functions. -/
set_option linter.unusedSimpArgs false
set_option linter.unusedVariables false
set_option linter.unnecessarySimpa false
namespace Go.Tk
open Go Go.RowKit
instance instEdt : DecidableEq Edt := @instDecidableEqProd Int (Lin × Unit) inferInstance (@instDecidableEqProd Lin Unit inferInstance inferInstance)
theorem eqL (a b : Lin) : T.eqB tL a b = decide (a = b) := by rw [Bool.eq_iff_iff, eqB_iff rfl, decide_eq_true_eq]
theorem eqE (a b : Edt) : T.eqB tEd a b = decide (a = b) := by rw [Bool.eq_iff_iff, eqB_iff rfl, decide_eq_true_eq]
theorem look_at : ∀ {x : List Edt} {k : Int} {i : Nat}, i < x.length → (x.take i).any (fun e => e.1 == k) = false → (x.getD i tEd.dflt).1 = k → lookE (readE x) k = some (x.getD i tEd.dflt).2.1
  | [], _, _, h, _, _ => by simp at h
  | e :: x, k, 0, _, _, h => by
    have h : e.1 = k := h
    show (if e.1 = k then some e.2.1 else lookE (readE x) k) = _
    rw [if_pos h]; rfl
  | e :: x, k, i + 1, h, h1, h2 => by
    rw [List.take_succ_cons, List.any_cons, Bool.or_eq_false_iff] at h1
    have h3 : ¬ e.1 = k := by have := h1.1; simpa using this
    show (if e.1 = k then some e.2.1 else lookE (readE x) k) = _
    rw [if_neg h3, look_at (i := i) (by simpa using h) h1.2 h2]; rfl
theorem look_no : ∀ {x : List Edt} {k : Int}, x.any (fun e => e.1 == k) = false → lookE (readE x) k = none
  | [], _, _ => rfl
  | e :: x, k, h => by
    rw [List.any_cons, Bool.or_eq_false_iff] at h
    have h3 : ¬ e.1 = k := by have := h.1; simpa using this
    show (if e.1 = k then some e.2.1 else lookE (readE x) k) = _
    rw [if_neg h3, look_no h.2]
def inArr (a : List Int) (i : Nat) : List Bool := (List.range 8).map fun (k : Nat) => decide ((k : Int) ∈ a.take i)
theorem inArr_len (a : List Int) (i : Nat) : (inArr a i).length = 8 := by simp [inArr]
theorem inArr_get (a : List Int) (i : Nat) {k : Nat} (h : k < 8) : (inArr a i).getD k false = decide ((k : Int) ∈ a.take i) := by
  unfold inArr
  rw [List.getD_eq_getElem?_getD, List.getElem?_map, List.getElem?_range h]; rfl
theorem inArr_set {a : List Int} {i : Nat} (hi : i < a.length) (h0 : 0 ≤ a.getD i 0) (h8 : a.getD i 0 < 8) : (inArr a i).set (a.getD i 0).toNat true = inArr a (i + 1) := by
  refine ext_getD false (by rw [List.length_set, inArr_len, inArr_len]) fun k hk => ?_
  rw [List.length_set, inArr_len] at hk
  rw [inArr_get a (i + 1) hk, take_snoc 0 hi]
  by_cases e : (a.getD i 0).toNat = k
  · subst e
    rw [List.getD_eq_getElem?_getD, List.getElem?_set_self (by rw [inArr_len]; exact hk)]
    have : ((a.getD i 0).toNat : Int) ∈ a.take i ++ [a.getD i 0] := by
      rw [List.mem_append]; right; simp only [List.mem_singleton]; omega
    rw [decide_eq_true this]; rfl
  · rw [List.getD_eq_getElem?_getD, List.getElem?_set_ne e, ← List.getD_eq_getElem?_getD, inArr_get a i hk]
    congr 1
    rw [List.mem_append, List.mem_singleton]
    exact propext ⟨Or.inl, fun h => h.elim id fun h => absurd (by omega) e⟩
theorem fst_at {x : List Edt} {i : Nat} (h : i < x.length) : (x.map (·.1)).getD i 0 = (x.getD i tEd.dflt).1 := by
  rw [List.getD_eq_getElem?_getD, List.getElem?_map, List.getElem?_eq_getElem h, List.getD_eq_getElem?_getD, List.getElem?_eq_getElem h]; rfl
abbrev cVal4R : Con := { A := (.cons (.sl tEd) .nil), R := (.cons .int .nil), pre := fun x => True, F := fun x => (validX x.1, ()) }
def cVal4R_0 (Λ1 : Int → Prop) (x : (List Edt)) (y0 : Int) : Prop :=
  if (decide ((List.length x : Int) > (4 : Int))) = true then ((3 : Int) = y0 ∧ True) else Λ1 (0 : Int)
def cVal4R_1 (Λ1 : Int → Prop) (x : (List Edt)) (y0 : Int)  (i_1 : Int) : Prop :=
  if (decide (i_1 < (List.length x : Int))) = true then (idx i_1 (List.length x : Int) ∧ (if (decide ((List.getD x (Int.toNat i_1) tEd.dflt).1 < (0 : Int))) = true then (true = true ∧ (true = true ∧ (true = true ∧ ((1 : Int) = y0 ∧ True)))) else (idx i_1 (List.length x : Int) ∧ (True ∧ (if (bif false then true else (decide ((List.getD x (Int.toNat i_1) tEd.dflt).1 ≥ (8 : Int)))) = true then (true = true ∧ (true = true ∧ ((1 : Int) = y0 ∧ True))) else (if (decide (i_1 > (0 : Int))) = true then (inI (i_1 - (1 : Int)) ∧ (idx (i_1 - (1 : Int)) (List.length x : Int) ∧ (idx i_1 (List.length x : Int) ∧ (True ∧ (True ∧ (if (bif false then true else (bif true then (decide ((List.getD x (Int.toNat (i_1 - (1 : Int))) tEd.dflt).1 ≥ (List.getD x (Int.toNat i_1) tEd.dflt).1)) else false)) = true then (true = true ∧ ((1 : Int) = y0 ∧ True)) else (idx i_1 (List.length x : Int) ∧ (True ∧ (True ∧ (if (bif false then true else ((argErr (validLine ((List.getD x (Int.toNat i_1) tEd.dflt).2.1))) != (0 : Int))) = true then ((1 : Int) = y0 ∧ True) else (inI (i_1 + (1 : Int)) ∧ Λ1 (i_1 + (1 : Int))))))))))))) else (false = false ∧ (True ∧ (if (bif false then true else false) = true then (true = true ∧ ((1 : Int) = y0 ∧ True)) else (idx i_1 (List.length x : Int) ∧ (True ∧ (True ∧ (if (bif false then true else ((argErr (validLine ((List.getD x (Int.toNat i_1) tEd.dflt).2.1))) != (0 : Int))) = true then ((1 : Int) = y0 ∧ True) else (inI (i_1 + (1 : Int)) ∧ Λ1 (i_1 + (1 : Int)))))))))))))))) else ((0 : Int) = y0 ∧ True)
theorem cVal4R_law (h : ∀ (x : (List Edt)), cVal4R.A.wf (x, ()) → ∀ (Λ1 : Int → Prop), (∀ (i_1 : Int), cVal4R_1 Λ1 x (validX x) i_1 → Λ1 i_1) → cVal4R_0 Λ1 x (validX x)) : ConOK Go.Proofs.Tryz.prog 20 cVal4R := by
  refine lawL (Γ := [(62, cValLineR)]) (Θ := Th) (n := 54) [([1, 1, 0, 1, 0], ⟨[(0, false), (3, true)], []⟩)] ⟨cValLineR_ok, trivial⟩ (by kernel_rfl) th_ok mix_ok Go.Proofs.Tryz.func20 (by kernel_rfl) ?_
  intro x hw hp Λ hC
  have h0 := h x.1 hw (fun i_1 => Λ [1, 1, 0, 1, 0] ([(0, .d false (.sl tEd) x.1), (3, .d true .int i_1)], [])) (fun i_1 hb => hC [1, 1, 0, 1, 0] ([(0, .d false (.sl tEd) x.1), (3, .d true .int i_1)], []) (Eq.mpr (by kernel_rfl) hb))
  exact Eq.mpr (by kernel_rfl) h0
theorem cVal4R_ok : ConOK Go.Proofs.Tryz.prog 20 cVal4R := by
  refine cVal4R_law ?_
  intro x hw Λ1 h1
  unfold cVal4R_0
  by_cases h4 : x.length > 4
  · rw [if_pos (by simp; omega)]
    unfold validX
    rw [if_pos h4]; exact ⟨rfl, trivial⟩
  · rw [if_neg (by simp; omega)]
    have hv : validX x = argErr (okTo x x.length) := by unfold validX; rw [if_neg h4]
    have bad : ∀ i, i < x.length → edOK x i = false → 1 = validX x := fun i hi e => by rw [hv, okTo_false e _ hi]; rfl
    refine upto (n := x.length) (Q := fun i => okTo x i = true → Λ1 i) ?_ ?_ 0 (Nat.zero_le _) rfl
    · intro ha
      apply h1; unfold cVal4R_1; rw [if_neg (by simp), hv, ha]
      exact ⟨rfl, trivial⟩
    · intro i hi ih ha
      apply h1; unfold cVal4R_1; rw [if_pos (by simpa using hi), Int.toNat_natCast]
      refine ⟨idx_nat hi, ?_⟩
      have hb := bad i hi
      have ok : edOK x i = true → okTo x (i + 1) = true := fun e => by unfold okTo; rw [ha, e]; rfl
      unfold edOK at hb ok
      by_cases a1 : (x.getD i tEd.dflt).1 < 0
      · rw [if_pos (by simpa using a1)]
        exact ⟨rfl, rfl, rfl, hb (by rw [decide_eq_true a1]; rfl), trivial⟩
      rw [if_neg (by simpa using a1)]
      refine ⟨idx_nat hi, trivial, ?_⟩
      by_cases a2 : (x.getD i tEd.dflt).1 ≥ 8
      · rw [if_pos (by simpa using a2)]
        exact ⟨rfl, rfl, hb (by rw [decide_eq_true a2, Bool.or_true]; rfl), trivial⟩
      rw [if_neg (by simpa using a2)]
      have fin : (decide (i > 0) && decide ((x.getD (i - 1) tEd.dflt).1 ≥ (x.getD i tEd.dflt).1)) = false → (if (bif false then true else ((argErr (validLine ((x.getD i tEd.dflt).2.1))) != (0 : Int))) = true then ((1 : Int) = validX x ∧ True) else (inI ((i : Int) + (1 : Int)) ∧ Λ1 ((i : Int) + (1 : Int)))) := by
        intro e3
        cases a4 : validLine (x.getD i tEd.dflt).2.1
        · rw [if_pos (by rfl)]
          exact ⟨hb (by rw [a4]; simp), trivial⟩
        · rw [if_neg (by simp [argErr])]
          refine ⟨inI_succ hi (by omega), ih (ok ?_)⟩
          rw [a4, e3, decide_eq_false a1, decide_eq_false a2]; rfl
      by_cases a3 : i > 0
      · rw [if_pos (by simp; omega)]
        have e1 : ((i : Int) - 1).toNat = i - 1 := by omega
        rw [e1]
        refine ⟨by unfold inI; omega, ⟨by omega, by omega⟩, idx_nat hi, trivial, trivial, ?_⟩
        by_cases a5 : (x.getD (i - 1) tEd.dflt).1 ≥ (x.getD i tEd.dflt).1
        · rw [if_pos (by simpa using a5)]
          refine ⟨rfl, hb ?_, trivial⟩
          rw [decide_eq_true a3, decide_eq_true a5]; simp
        · rw [if_neg (by simpa using a5)]
          exact ⟨idx_nat hi, trivial, trivial, fin (by rw [decide_eq_false a5, Bool.and_false])⟩
      · rw [if_neg (by simp; omega)]
        refine ⟨rfl, trivial, ?_⟩
        rw [if_neg (by simp)]
        exact ⟨idx_nat hi, trivial, trivial, fin (by rw [decide_eq_false a3, Bool.false_and])⟩
abbrev cPlacedR : Con := { A := (.cons (.sl tL) (.cons (.sl tEd) .nil)), R := (.cons .int .nil), pre := fun x => True, F := fun x => (if far x.1.length x.2.1 = true then 4 else 0, ()) }
def cPlacedR_0 (Λ1 : Int → Prop) (p : (List Lin)) (x : (List Edt)) (y0 : Int) : Prop :=
  Λ1 (0 : Int)
def cPlacedR_1 (Λ1 : Int → Prop) (p : (List Lin)) (x : (List Edt)) (y0 : Int)  (i_1 : Int) : Prop :=
  if (decide (i_1 < (List.length x : Int))) = true then (idx i_1 (List.length x : Int) ∧ (if (decide ((List.getD x (Int.toNat i_1) tEd.dflt).1 ≥ (List.length p : Int))) = true then ((4 : Int) = y0 ∧ True) else (inI (i_1 + (1 : Int)) ∧ Λ1 (i_1 + (1 : Int))))) else ((0 : Int) = y0 ∧ True)
theorem cPlacedR_law (h : ∀ (p : (List Lin)) (x : (List Edt)), cPlacedR.A.wf (p, x, ()) → ∀ (Λ1 : Int → Prop), (∀ (i_1 : Int), cPlacedR_1 Λ1 p x (if far p.length x = true then 4 else 0) i_1 → Λ1 i_1) → cPlacedR_0 Λ1 p x (if far p.length x = true then 4 else 0)) : ConOK Go.Proofs.Tryz.prog 97 cPlacedR := by
  refine lawL (Γ := []) (Θ := Th) (n := 20) [([1, 0, 1, 0], ⟨[(0, false), (1, false), (5, true)], []⟩)] trivial (by kernel_rfl) th_ok mix_ok Go.Proofs.Tryz.func97 (by kernel_rfl) ?_
  intro x hw hp Λ hC
  have h0 := h x.1 x.2.1 hw (fun i_1 => Λ [1, 0, 1, 0] ([(0, .d false (.sl tL) x.1), (1, .d false (.sl tEd) x.2.1), (5, .d true .int i_1)], [])) (fun i_1 hb => hC [1, 0, 1, 0] ([(0, .d false (.sl tL) x.1), (1, .d false (.sl tEd) x.2.1), (5, .d true .int i_1)], []) (Eq.mpr (by kernel_rfl) hb))
  exact Eq.mpr (by kernel_rfl) h0
theorem cPlacedR_ok : ConOK Go.Proofs.Tryz.prog 97 cPlacedR := by
  refine cPlacedR_law ?_
  intro p x hw Λ1 h1
  unfold cPlacedR_0
  have hxl : x.length ≤ 140737488355328 := hw.2.1.1
  refine upto (n := x.length) (Q := fun i => (x.take i).any (fun e => decide (e.1 ≥ (p.length : Int))) = false → Λ1 (i : Int)) ?_ ?_ 0 (Nat.zero_le _) rfl
  · intro ha
    rw [List.take_length] at ha
    apply h1; unfold cPlacedR_1
    rw [if_neg (by simp)]
    have : far p.length x = false := ha
    rw [this]; exact ⟨rfl, trivial⟩
  · intro i hi ih ha
    apply h1; unfold cPlacedR_1
    rw [if_pos (by simpa using hi), Int.toNat_natCast]
    refine ⟨idx_nat hi, ?_⟩
    cases hv : decide ((x.getD i tEd.dflt).1 ≥ (p.length : Int))
    · rw [if_neg (by simp)]
      exact ⟨inI_succ hi hxl, ih (any_take_next (p := fun e : Edt => decide (e.1 ≥ (p.length : Int))) tEd.dflt hi ha hv)⟩
    · rw [if_pos rfl]
      have : far p.length x = true := List.any_eq_true.2 ⟨_, mem_getD hi, hv⟩
      rw [this]; exact ⟨rfl, trivial⟩
abbrev cBothR : Con := { A := (.cons (.sl tL) (.cons (.sl tEd) .nil)), R := (.cons .int .nil), pre := fun x => True, F := fun x => (errX x.1 x.2.1, ()) }
def cBothR_0  (p : (List Lin)) (x : (List Edt)) (y0 : Int) : Prop :=
  True ∧ (if ((validP p) != (0 : Int)) = true then ((validP p) = y0 ∧ True) else (True ∧ (if ((validX x) != (0 : Int)) = true then ((validX x) = y0 ∧ True) else (True ∧ ((if far p.length x = true then 4 else 0) = y0 ∧ True)))))
theorem cBothR_law (h : ∀ (p : (List Lin)) (x : (List Edt)), cBothR.A.wf (p, x, ()) → cBothR_0  p x (errX p x)) : ConOK Go.Proofs.Tryz.prog 59 cBothR := by
  refine lawL (Γ := [(97, cPlacedR), (20, cVal4R), (81, cValPR)]) (Θ := Th) (n := 19) [] ⟨cPlacedR_ok, cVal4R_ok, cValPR_ok, trivial⟩ (by kernel_rfl) th_ok mix_ok Go.Proofs.Tryz.func59 (by kernel_rfl) ?_
  intro x hw hp Λ hC
  have h0 := h x.1 x.2.1 hw  
  exact Eq.mpr (by kernel_rfl) h0
theorem cBothR_ok : ConOK Go.Proofs.Tryz.prog 59 cBothR := by
  refine cBothR_law ?_
  intro p x hw
  unfold cBothR_0
  refine ⟨trivial, ?_⟩
  unfold errX errXT
  by_cases g1 : validP p = 0
  · rw [if_neg (by simp [g1]), if_pos g1]
    refine ⟨trivial, ?_⟩
    by_cases g2 : validX x = 0
    · rw [if_neg (by simp [g2]), if_pos g2, if_pos validT_nil]
      exact ⟨trivial, rfl, trivial⟩
    · rw [if_pos (by simpa using g2), if_neg g2]; exact ⟨rfl, trivial⟩
  · rw [if_pos (by simpa using g1), if_neg g1]; exact ⟨rfl, trivial⟩
abbrev cTestedR4 : Con := { A := (.cons (.sl tL) (.cons (.sl tEd) (.cons (.sl tTs) .nil))), R := (.cons .int .nil), pre := fun x => True, F := fun x => (errXT x.1 x.2.1 x.2.2.1, ()) }
def cTestedR4_0  (p : (List Lin)) (x : (List Edt)) (l : (List Tst)) (y0 : Int) : Prop :=
  True ∧ (if ((validP p) != (0 : Int)) = true then ((validP p) = y0 ∧ True) else (True ∧ (if ((validX x) != (0 : Int)) = true then ((validX x) = y0 ∧ True) else (True ∧ (if ((validT l) != (0 : Int)) = true then ((validT l) = y0 ∧ True) else (True ∧ ((if far p.length x = true then 4 else 0) = y0 ∧ True)))))))
theorem cTestedR4_law (h : ∀ (p : (List Lin)) (x : (List Edt)) (l : (List Tst)), cTestedR4.A.wf (p, x, l, ()) → cTestedR4_0  p x l (errXT p x l)) : ConOK Go.Proofs.Tryz.prog 65 cTestedR4 := by
  refine lawL (Γ := [(97, cPlacedR), (20, cVal4R), (81, cValPR), (109, cValTR)]) (Θ := Th) (n := 26) [] ⟨cPlacedR_ok, cVal4R_ok, cValPR_ok, cValTR_ok, trivial⟩ (by kernel_rfl) th_ok mix_ok Go.Proofs.Tryz.func65 (by kernel_rfl) ?_
  intro x hw hp Λ hC
  have h0 := h x.1 x.2.1 x.2.2.1 hw  
  exact Eq.mpr (by kernel_rfl) h0
theorem cTestedR4_ok : ConOK Go.Proofs.Tryz.prog 65 cTestedR4 := by
  refine cTestedR4_law ?_
  intro p x l hw
  unfold cTestedR4_0
  refine ⟨trivial, ?_⟩
  unfold errXT
  by_cases g1 : validP p = 0
  · rw [if_neg (by simp [g1]), if_pos g1]
    refine ⟨trivial, ?_⟩
    by_cases g2 : validX x = 0
    · rw [if_neg (by simp [g2]), if_pos g2]
      refine ⟨trivial, ?_⟩
      by_cases g3 : validT l = 0
      · rw [if_neg (by simp [g3]), if_pos g3]
        exact ⟨trivial, rfl, trivial⟩
      · rw [if_pos (by simpa using g3), if_neg g3]; exact ⟨rfl, trivial⟩
    · rw [if_pos (by simpa using g2), if_neg g2]; exact ⟨rfl, trivial⟩
  · rw [if_pos (by simpa using g1), if_neg g1]; exact ⟨rfl, trivial⟩
abbrev cTwoR : Con := { A := (.cons (.sl tEd) (.cons (.sl tEd) .nil)), R := (.cons .int .nil), pre := fun x => True, F := fun x => (bothX x.1 x.2.1, ()) }
def cTwoR_0  (x : (List Edt)) (y_ : (List Edt)) (y0 : Int) : Prop :=
  True ∧ (if ((validX x) != (0 : Int)) = true then ((validX x) = y0 ∧ True) else (True ∧ ((validX y_) = y0 ∧ True)))
theorem cTwoR_law (h : ∀ (x : (List Edt)) (y_ : (List Edt)), cTwoR.A.wf (x, y_, ()) → cTwoR_0  x y_ (bothX x y_)) : ConOK Go.Proofs.Tryz.prog 73 cTwoR := by
  refine lawL (Γ := [(20, cVal4R)]) (Θ := Th) (n := 13) [] ⟨cVal4R_ok, trivial⟩ (by kernel_rfl) th_ok mix_ok Go.Proofs.Tryz.func73 (by kernel_rfl) ?_
  intro x hw hp Λ hC
  have h0 := h x.1 x.2.1 hw  
  exact Eq.mpr (by kernel_rfl) h0
theorem cTwoR_ok : ConOK Go.Proofs.Tryz.prog 73 cTwoR := by
  refine cTwoR_law ?_
  intro x y_ hw
  unfold cTwoR_0
  refine ⟨trivial, ?_⟩
  unfold bothX
  by_cases h : validX x = 0
  · rw [if_neg (by simp [h]), if_pos h]
    exact ⟨trivial, rfl, trivial⟩
  · rw [if_pos (by simpa using h), if_neg h]
    exact ⟨rfl, trivial⟩
abbrev cDoneR : Con := { A := (.cons (.sl tL) (.cons (.sl tEd) .nil)), R := (.cons (.osl tL) .nil), pre := fun x => x.1.length ≤ 1000 ∧ x.2.1.length ≤ 1000 ∧ inX x.1.length x.2.1, F := fun x => (playX x.1 x.2.1, ()) }
def cDoneR_0 (Λ1 : Int → (List Lin) → Prop) (p : (List Lin)) (x : (List Edt)) (y0 : (List Lin)) : Prop :=
  List.length ([] : List Lin) + List.length p ≤ 4294967296 ∧ Λ1 (0 : Int) (([] : List Lin) ++ p)
def cDoneR_1 (Λ1 : Int → (List Lin) → Prop) (p : (List Lin)) (x : (List Edt)) (y0 : (List Lin))  (i_1 : Int) (out_1 : (List Lin)) : Prop :=
  if (decide (i_1 < (List.length x : Int))) = true then (idx i_1 (List.length x : Int) ∧ (idx i_1 (List.length x : Int) ∧ (idx ((List.getD x (Int.toNat i_1) tEd.dflt).1) (List.length out_1 : Int) ∧ (inI (i_1 + (1 : Int)) ∧ Λ1 (i_1 + (1 : Int)) (List.set out_1 (Int.toNat ((List.getD x (Int.toNat i_1) tEd.dflt).1)) ((List.getD x (Int.toNat i_1) tEd.dflt).2.1)))))) else out_1 = y0
theorem cDoneR_law (h : ∀ (p : (List Lin)) (x : (List Edt)), cDoneR.A.wf (p, x, ()) → (p.length ≤ 1000 ∧ x.length ≤ 1000 ∧ inX p.length x) → ∀ (Λ1 : Int → (List Lin) → Prop), (∀ (i_1 : Int) (out_1 : (List Lin)), cDoneR_1 Λ1 p x (playX p x) i_1 out_1 → Λ1 i_1 out_1) → cDoneR_0 Λ1 p x (playX p x)) : ConOK Go.Proofs.Tryz.prog 60 cDoneR := by
  refine lawL (Γ := []) (Θ := Th) (n := 29) [([1, 1, 0, 1, 0], ⟨[(1, false), (5, true), (6, true)], [(7, true)]⟩)] trivial (by kernel_rfl) th_ok mix_ok Go.Proofs.Tryz.func60 (by kernel_rfl) ?_
  intro x hw hp Λ hC
  have h0 := h x.1 x.2.1 hw hp (fun i_1 out_1 => Λ [1, 1, 0, 1, 0] ([(1, .d false (.sl tEd) x.2.1), (5, .own 7 0), (6, .d true .int i_1)], [(7, .sl true tL out_1)])) (fun i_1 out_1 hb => hC [1, 1, 0, 1, 0] ([(1, .d false (.sl tEd) x.2.1), (5, .own 7 0), (6, .d true .int i_1)], [(7, .sl true tL out_1)]) (Eq.mpr (by kernel_rfl) hb))
  exact Eq.mpr (by kernel_rfl) h0
theorem cDoneR_ok : ConOK Go.Proofs.Tryz.prog 60 cDoneR := by
  refine cDoneR_law ?_
  intro p x hw hp Λ1 h1
  unfold cDoneR_0
  obtain ⟨p1, p2, p3⟩ := hp
  refine ⟨by simp only [List.length_nil]; omega, ?_⟩
  rw [List.nil_append]
  refine upto (n := x.length) (Q := fun i => Λ1 (i : Int) (playX p (x.take i))) ?_ ?_ 0 (Nat.zero_le _)
  · apply h1; unfold cDoneR_1
    rw [if_neg (by simp), List.take_length]
  · intro i hi ih
    rw [playX_take p x hi] at ih
    have he := p3 _ (mem_getD (d := tEd.dflt) hi)
    apply h1; unfold cDoneR_1
    rw [if_pos (by simpa using hi), Int.toNat_natCast, playX_len]
    exact ⟨idx_nat hi, idx_nat hi, he, by unfold inI; omega, ih⟩
abbrev cDoR : Con := { A := (.cons (.sl tL) (.cons (.sl tEd) .nil)), R := (.cons (.osl tL) (.cons .int .nil)), pre := fun x => True, F := fun x => ((if errX x.1 x.2.1 = 0 then playX x.1 x.2.1 else []), errX x.1 x.2.1, ()) }
def cDoR_0  (p : (List Lin)) (x : (List Edt)) (y0 : (List Lin)) (y1 : Int) : Prop :=
  True ∧ (if ((errX p x) != (0 : Int)) = true then ((errX p x) = y1 ∧ ([] : List Lin) = y0) else ((p.length ≤ 1000 ∧ x.length ≤ 1000 ∧ inX p.length x) ∧ ((0 : Int) = y1 ∧ (playX p x) = y0)))
theorem cDoR_law (h : ∀ (p : (List Lin)) (x : (List Edt)), cDoR.A.wf (p, x, ()) → cDoR_0  p x (if errX p x = 0 then playX p x else []) (errX p x)) : ConOK Go.Proofs.Tryz.prog 18 cDoR := by
  refine lawL (Γ := [(59, cBothR), (60, cDoneR)]) (Θ := Th) (n := 16) [] ⟨cBothR_ok, cDoneR_ok, trivial⟩ (by kernel_rfl) th_ok mix_ok Go.Proofs.Tryz.func18 (by kernel_rfl) ?_
  intro x hw hp Λ hC
  have h0 := h x.1 x.2.1 hw  
  exact Eq.mpr (by kernel_rfl) h0
theorem cDoR_ok : ConOK Go.Proofs.Tryz.prog 18 cDoR := by
  refine cDoR_law ?_
  intro p x hw
  unfold cDoR_0
  refine ⟨trivial, ?_⟩
  by_cases h : errX p x = 0
  · obtain ⟨g1, g2, g3⟩ := errX_ok h
    have h8 := (validP_ok g1).1
    have h4 := (validX_ok g2).1
    rw [if_neg (by simp [h]), if_pos h]
    exact ⟨⟨by omega, by omega, g3⟩, h.symm, rfl⟩
  · rw [if_pos (by simpa using h), if_neg h]
    exact ⟨rfl, rfl⟩
abbrev cInvR : Con := { A := (.cons (.sl tL) (.cons (.sl tEd) .nil)), R := (.cons (.osl tEd) (.cons .int .nil)), pre := fun x => True, F := fun x => ((if errX x.1 x.2.1 = 0 then invX x.1 x.2.1 else []), errX x.1 x.2.1, ()) }
def cInvR_0 (Λ1 : Int → (List Edt) → Prop) (p : (List Lin)) (x : (List Edt)) (y0 : (List Edt)) (y1 : Int) : Prop :=
  True ∧ (if ((errX p x) != (0 : Int)) = true then ((errX p x) = y1 ∧ ([] : List Edt) = y0) else Λ1 (0 : Int) ([] : List Edt))
def cInvR_1 (Λ1 : Int → (List Edt) → Prop) (p : (List Lin)) (x : (List Edt)) (y0 : (List Edt)) (y1 : Int)  (i_1 : Int) (out_1 : (List Edt)) : Prop :=
  if (decide (i_1 < (List.length x : Int))) = true then (idx i_1 (List.length x : Int) ∧ (idx i_1 (List.length x : Int) ∧ (idx ((List.getD x (Int.toNat i_1) tEd.dflt).1) (List.length p : Int) ∧ (List.length out_1 + List.length [((List.getD x (Int.toNat i_1) tEd.dflt).1, (List.getD p (Int.toNat ((List.getD x (Int.toNat i_1) tEd.dflt).1)) tL.dflt), ())] ≤ 4294967296 ∧ (inI (i_1 + (1 : Int)) ∧ Λ1 (i_1 + (1 : Int)) (out_1 ++ [((List.getD x (Int.toNat i_1) tEd.dflt).1, (List.getD p (Int.toNat ((List.getD x (Int.toNat i_1) tEd.dflt).1)) tL.dflt), ())])))))) else ((0 : Int) = y1 ∧ out_1 = y0)
theorem cInvR_law (h : ∀ (p : (List Lin)) (x : (List Edt)), cInvR.A.wf (p, x, ()) → ∀ (Λ1 : Int → (List Edt) → Prop), (∀ (i_1 : Int) (out_1 : (List Edt)), cInvR_1 Λ1 p x (if errX p x = 0 then invX p x else []) (errX p x) i_1 out_1 → Λ1 i_1 out_1) → cInvR_0 Λ1 p x (if errX p x = 0 then invX p x else []) (errX p x)) : ConOK Go.Proofs.Tryz.prog 23 cInvR := by
  refine lawL (Γ := [(59, cBothR)]) (Θ := Th) (n := 39) [([1, 1, 1, 1, 0, 1, 0], ⟨[(0, false), (1, false), (7, true), (8, true)], [(7, true)]⟩)] ⟨cBothR_ok, trivial⟩ (by kernel_rfl) th_ok mix_ok Go.Proofs.Tryz.func23 (by kernel_rfl) ?_
  intro x hw hp Λ hC
  have h0 := h x.1 x.2.1 hw (fun i_1 out_1 => Λ [1, 1, 1, 1, 0, 1, 0] ([(0, .d false (.sl tL) x.1), (1, .d false (.sl tEd) x.2.1), (7, .own 7 0), (8, .d true .int i_1)], [(7, .sl true tEd out_1)])) (fun i_1 out_1 hb => hC [1, 1, 1, 1, 0, 1, 0] ([(0, .d false (.sl tL) x.1), (1, .d false (.sl tEd) x.2.1), (7, .own 7 0), (8, .d true .int i_1)], [(7, .sl true tEd out_1)]) (Eq.mpr (by kernel_rfl) hb))
  exact Eq.mpr (by kernel_rfl) h0
theorem cInvR_ok : ConOK Go.Proofs.Tryz.prog 23 cInvR := by
  refine cInvR_law ?_
  intro p x hw Λ1 h1
  unfold cInvR_0
  refine ⟨trivial, ?_⟩
  by_cases h : errX p x = 0
  · obtain ⟨g1, g2, g3⟩ := errX_ok h
    have h4 := (validX_ok g2).1
    rw [if_neg (by simp [h])]
    have hl : (invX p x).length = x.length := by simp [invX]
    refine upto (n := x.length) (Q := fun i => Λ1 (i : Int) ((invX p x).take i)) ?_ ?_ 0 (Nat.zero_le _)
    · apply h1; unfold cInvR_1
      rw [if_neg (by simp), if_pos h, List.take_of_length_le (by omega)]
      exact ⟨h.symm, rfl⟩
    · intro i hi ih
      unfold invX at ih
      rw [map_take_next (invE p) x tEd.dflt hi] at ih
      have he := g3 _ (mem_getD (d := tEd.dflt) hi)
      apply h1; unfold cInvR_1
      rw [if_pos (by simpa using hi), Int.toNat_natCast]
      refine ⟨idx_nat hi, idx_nat hi, he, ?_, by unfold inI; omega, ih⟩
      rw [List.length_take, hl]; simp only [List.length_cons, List.length_nil]; omega
  · rw [if_pos (by simpa using h), if_neg h]
    exact ⟨rfl, rfl⟩
abbrev cDiffR : Con := { A := (.cons (.sl tL) (.cons (.sl tL) .nil)), R := (.cons (.osl tEd) (.cons .int .nil)), pre := fun x => True, F := fun x => (diffX x.1 x.2.1, diffN x.1 x.2.1, ()) }
def cDiffR_0 (Λ1 : Int → (List Edt) → Prop) (p : (List Lin)) (q : (List Lin)) (y0 : (List Edt)) (y1 : Int) : Prop :=
  True ∧ (if ((validP p) != (0 : Int)) = true then ((validP p) = y1 ∧ ([] : List Edt) = y0) else (True ∧ (if ((validP q) != (0 : Int)) = true then ((validP q) = y1 ∧ ([] : List Edt) = y0) else (if ((List.length p : Int) != (List.length q : Int)) = true then ((9 : Int) = y1 ∧ ([] : List Edt) = y0) else Λ1 (0 : Int) ([] : List Edt)))))
def cDiffR_1 (Λ1 : Int → (List Edt) → Prop) (p : (List Lin)) (q : (List Lin)) (y0 : (List Edt)) (y1 : Int)  (i_1 : Int) (out_1 : (List Edt)) : Prop :=
  if (decide (i_1 < (List.length p : Int))) = true then (idx i_1 (List.length p : Int) ∧ (idx i_1 (List.length q : Int) ∧ (if (!(T.eqB tL (List.getD p (Int.toNat i_1) tL.dflt) (List.getD q (Int.toNat i_1) tL.dflt))) = true then (idx i_1 (List.length q : Int) ∧ (List.length out_1 + List.length [(i_1, (List.getD q (Int.toNat i_1) tL.dflt), ())] ≤ 4294967296 ∧ (inI (i_1 + (1 : Int)) ∧ Λ1 (i_1 + (1 : Int)) (out_1 ++ [(i_1, (List.getD q (Int.toNat i_1) tL.dflt), ())])))) else (inI (i_1 + (1 : Int)) ∧ Λ1 (i_1 + (1 : Int)) out_1)))) else (if (decide ((List.length out_1 : Int) > (4 : Int))) = true then ((3 : Int) = y1 ∧ ([] : List Edt) = y0) else ((0 : Int) = y1 ∧ out_1 = y0))
theorem cDiffR_law (h : ∀ (p : (List Lin)) (q : (List Lin)), cDiffR.A.wf (p, q, ()) → ∀ (Λ1 : Int → (List Edt) → Prop), (∀ (i_1 : Int) (out_1 : (List Edt)), cDiffR_1 Λ1 p q (diffX p q) (diffN p q) i_1 out_1 → Λ1 i_1 out_1) → cDiffR_0 Λ1 p q (diffX p q) (diffN p q)) : ConOK Go.Proofs.Tryz.prog 41 cDiffR := by
  refine lawL (Γ := [(81, cValPR)]) (Θ := Th) (n := 52) [([1, 1, 1, 1, 1, 1, 1, 0, 1, 0], ⟨[(0, false), (1, false), (7, true), (8, true)], [(7, true)]⟩)] ⟨cValPR_ok, trivial⟩ (by kernel_rfl) th_ok mix_ok Go.Proofs.Tryz.func41 (by kernel_rfl) ?_
  intro x hw hp Λ hC
  have h0 := h x.1 x.2.1 hw (fun i_1 out_1 => Λ [1, 1, 1, 1, 1, 1, 1, 0, 1, 0] ([(0, .d false (.sl tL) x.1), (1, .d false (.sl tL) x.2.1), (7, .own 7 0), (8, .d true .int i_1)], [(7, .sl true tEd out_1)])) (fun i_1 out_1 hb => hC [1, 1, 1, 1, 1, 1, 1, 0, 1, 0] ([(0, .d false (.sl tL) x.1), (1, .d false (.sl tL) x.2.1), (7, .own 7 0), (8, .d true .int i_1)], [(7, .sl true tEd out_1)]) (Eq.mpr (by kernel_rfl) hb))
  exact Eq.mpr (by kernel_rfl) h0
theorem cDiffR_ok : ConOK Go.Proofs.Tryz.prog 41 cDiffR := by
  refine cDiffR_law ?_
  intro p q hw Λ1 h1
  unfold cDiffR_0
  refine ⟨trivial, ?_⟩
  unfold diffN diffX errPQ
  by_cases g1 : validP p = 0
  · rw [if_neg (by simp [g1]), if_pos g1]
    refine ⟨trivial, ?_⟩
    by_cases g2 : validP q = 0
    · rw [if_neg (by simp [g2]), if_pos g2, if_pos g2]
      have h8 := (validP_ok g1).1
      by_cases g3 : p.length = q.length
      · rw [if_neg (by simp [g3])]
        refine upto (n := p.length) (Q := fun i => Λ1 (i : Int) (editE (diffE p q i))) ?_ ?_ 0 (Nat.zero_le _)
        · apply h1; unfold cDiffR_1
          rw [if_neg (by simp)]
          unfold diffN diffX errPQ limN limE
          rw [if_pos g1, if_pos g2, if_pos g2, if_pos g3, if_pos g3, edit_len, ← g3]
          by_cases g4 : (diffE p q p.length).length > 4
          · rw [if_pos (by simp; omega), if_pos g4, if_pos g4]; exact ⟨rfl, rfl⟩
          · rw [if_neg (by simp; omega), if_neg g4, if_neg g4]; exact ⟨rfl, rfl⟩
        · intro i hi ih
          have hdl := diffE_len p q i
          rw [diffE_succ] at ih
          apply h1; unfold cDiffR_1
          rw [if_pos (by simpa using hi), Int.toNat_natCast, eqL]
          refine ⟨idx_nat hi, idx_nat (by omega), ?_⟩
          by_cases g4 : p.getD i tL.dflt = q.getD i tL.dflt
          · rw [if_pos g4] at ih
            rw [if_neg (by rw [decide_eq_true g4]; simp)]
            exact ⟨by unfold inI; omega, ih⟩
          · rw [if_neg g4, edit_app] at ih
            rw [if_pos (by rw [decide_eq_false g4]; rfl)]
            refine ⟨idx_nat (by omega), ?_, by unfold inI; omega, ih⟩
            rw [edit_len]; simp only [List.length_cons, List.length_nil]; omega
      · rw [if_pos (by simp; omega), if_neg g3, if_neg g3]; exact ⟨rfl, rfl⟩
    · rw [if_pos (by simpa using g2), if_neg g2, if_neg g2]; exact ⟨rfl, rfl⟩
  · rw [if_pos (by simpa using g1), if_neg g1, if_neg g1, if_neg g1]; exact ⟨rfl, rfl⟩
abbrev cFieldsR : Con := { A := (.cons tL (.cons tL .nil)), R := (.cons .int .nil), pre := fun x => True, F := fun x => (fieldsN x.1 x.2.1, ()) }
def cFieldsR_0 (Λ1 : Int → Prop) (Λ2 : Int → Prop) (a : Lin) (b : Lin) (y0 : Int) : Prop :=
  if (a.1 != b.1) = true then (inI ((0 : Int) + (1 : Int)) ∧ Λ1 ((0 : Int) + (1 : Int))) else Λ1 (0 : Int)
def cFieldsR_1 (Λ1 : Int → Prop) (Λ2 : Int → Prop) (a : Lin) (b : Lin) (y0 : Int)  (n_1 : Int) : Prop :=
  if (a.2.1 != b.2.1) = true then (inI (n_1 + (1 : Int)) ∧ Λ2 (n_1 + (1 : Int))) else Λ2 n_1
def cFieldsR_2 (Λ1 : Int → Prop) (Λ2 : Int → Prop) (a : Lin) (b : Lin) (y0 : Int)  (n_2 : Int) : Prop :=
  if (a.2.2.1 != b.2.2.1) = true then (inI (n_2 + (1 : Int)) ∧ (if (a.2.2.2.1 != b.2.2.2.1) = true then (inI ((n_2 + (1 : Int)) + (1 : Int)) ∧ (((n_2 + (1 : Int)) + (1 : Int)) = y0 ∧ True)) else ((n_2 + (1 : Int)) = y0 ∧ True))) else (if (a.2.2.2.1 != b.2.2.2.1) = true then (inI (n_2 + (1 : Int)) ∧ ((n_2 + (1 : Int)) = y0 ∧ True)) else (n_2 = y0 ∧ True))
theorem cFieldsR_law (h : ∀ (a : Lin) (b : Lin), cFieldsR.A.wf (a, b, ()) → ∀ (Λ1 : Int → Prop) (Λ2 : Int → Prop), (∀ (n_1 : Int), cFieldsR_1 Λ1 Λ2 a b (fieldsN a b) n_1 → Λ1 n_1) → (∀ (n_2 : Int), cFieldsR_2 Λ1 Λ2 a b (fieldsN a b) n_2 → Λ2 n_2) → cFieldsR_0 Λ1 Λ2 a b (fieldsN a b)) : ConOK Go.Proofs.Tryz.prog 76 cFieldsR := by
  refine lawL (Γ := []) (Θ := Th) (n := 35) [([1, 1, 2], ⟨[(2, true), (3, true), (5, true)], [(2, false), (3, false)]⟩), ([1, 1, 1, 2], ⟨[(2, true), (3, true), (5, true)], [(2, false), (3, false)]⟩)] trivial (by kernel_rfl) th_ok mix_ok Go.Proofs.Tryz.func76 (by kernel_rfl) ?_
  intro x hw hp Λ hC
  have h0 := h x.1 x.2.1 hw (fun n_1 => Λ [1, 1, 2] ([(2, .ptr 2 0 []), (3, .ptr 3 0 []), (5, .d true .int n_1)], [(2, .box false tL x.1), (3, .box false tL x.2.1)])) (fun n_2 => Λ [1, 1, 1, 2] ([(2, .ptr 2 0 []), (3, .ptr 3 0 []), (5, .d true .int n_2)], [(2, .box false tL x.1), (3, .box false tL x.2.1)])) (fun n_1 hb => hC [1, 1, 2] ([(2, .ptr 2 0 []), (3, .ptr 3 0 []), (5, .d true .int n_1)], [(2, .box false tL x.1), (3, .box false tL x.2.1)]) (Eq.mpr (by kernel_rfl) hb)) (fun n_2 hb => hC [1, 1, 1, 2] ([(2, .ptr 2 0 []), (3, .ptr 3 0 []), (5, .d true .int n_2)], [(2, .box false tL x.1), (3, .box false tL x.2.1)]) (Eq.mpr (by kernel_rfl) hb))
  exact Eq.mpr (by kernel_rfl) h0
theorem cFieldsR_ok : ConOK Go.Proofs.Tryz.prog 76 cFieldsR := by
  refine cFieldsR_law ?_
  intro a b hw Λ1 Λ2 h1 h2
  unfold cFieldsR_0
  have k2 : ∀ n : Int, 0 ≤ n → n ≤ 2 → n + ((if a.2.2.1 = b.2.2.1 then 0 else 1) + (if a.2.2.2.1 = b.2.2.2.1 then 0 else 1)) = fieldsN a b → Λ2 n := by
    intro n hn0 hn2 e
    apply h2; unfold cFieldsR_2
    by_cases c1 : a.2.2.1 = b.2.2.1
    · rw [if_pos c1] at e
      rw [if_neg (by simp [c1])]
      by_cases c2 : a.2.2.2.1 = b.2.2.2.1
      · rw [if_pos c2] at e
        rw [if_neg (by simp [c2])]; exact ⟨by omega, trivial⟩
      · rw [if_neg c2] at e
        rw [if_pos (by simpa using c2)]; exact ⟨by unfold inI; omega, by omega, trivial⟩
    · rw [if_neg c1] at e
      rw [if_pos (by simpa using c1)]
      refine ⟨by unfold inI; omega, ?_⟩
      by_cases c2 : a.2.2.2.1 = b.2.2.2.1
      · rw [if_pos c2] at e
        rw [if_neg (by simp [c2])]; exact ⟨by omega, trivial⟩
      · rw [if_neg c2] at e
        rw [if_pos (by simpa using c2)]; exact ⟨by unfold inI; omega, by omega, trivial⟩
  have k1 : ∀ n : Int, 0 ≤ n → n ≤ 1 → n + ((if a.2.1 = b.2.1 then 0 else 1) + ((if a.2.2.1 = b.2.2.1 then 0 else 1) + (if a.2.2.2.1 = b.2.2.2.1 then 0 else 1))) = fieldsN a b → Λ1 n := by
    intro n hn0 hn2 e
    apply h1; unfold cFieldsR_1
    by_cases c1 : a.2.1 = b.2.1
    · rw [if_pos c1] at e
      rw [if_neg (by simp [c1])]
      exact k2 n hn0 (by omega) (by omega)
    · rw [if_neg c1] at e
      rw [if_pos (by simpa using c1)]
      exact ⟨by unfold inI; omega, k2 (n + 1) (by omega) (by omega) (by omega)⟩
  by_cases c1 : a.1 = b.1
  · rw [if_neg (by simp [c1])]
    refine k1 0 (by omega) (by omega) ?_
    unfold fieldsN; rw [if_pos c1]
  · rw [if_pos (by simpa using c1)]
    refine ⟨by unfold inI; omega, k1 (0 + 1) (by omega) (by omega) ?_⟩
    unfold fieldsN; rw [if_neg c1]; omega
abbrev cSizeR : Con := { A := (.cons (.sl tL) (.cons (.sl tEd) .nil)), R := (.cons .int (.cons .int .nil)), pre := fun x => True, F := fun x => ((if errX x.1 x.2.1 = 0 then sizeX x.1 x.2.1 else 0), errX x.1 x.2.1, ()) }
def cSizeR_0 (Λ1 : Int → Int → Prop) (p : (List Lin)) (x : (List Edt)) (y0 : Int) (y1 : Int) : Prop :=
  True ∧ (if ((errX p x) != (0 : Int)) = true then ((0 : Int) = y0 ∧ (errX p x) = y1 ∧ True) else Λ1 (0 : Int) (0 : Int))
def cSizeR_1 (Λ1 : Int → Int → Prop) (p : (List Lin)) (x : (List Edt)) (y0 : Int) (y1 : Int)  (n_1 : Int) (i_1 : Int) : Prop :=
  if (decide (i_1 < (List.length x : Int))) = true then (idx i_1 (List.length x : Int) ∧ (idx ((List.getD x (Int.toNat i_1) tEd.dflt).1) (List.length p : Int) ∧ (idx i_1 (List.length x : Int) ∧ (True ∧ (inI (n_1 + (fieldsN (List.getD p (Int.toNat ((List.getD x (Int.toNat i_1) tEd.dflt).1)) tL.dflt) ((List.getD x (Int.toNat i_1) tEd.dflt).2.1))) ∧ (inI (i_1 + (1 : Int)) ∧ Λ1 (n_1 + (fieldsN (List.getD p (Int.toNat ((List.getD x (Int.toNat i_1) tEd.dflt).1)) tL.dflt) ((List.getD x (Int.toNat i_1) tEd.dflt).2.1))) (i_1 + (1 : Int)))))))) else (n_1 = y0 ∧ (0 : Int) = y1 ∧ True)
theorem cSizeR_law (h : ∀ (p : (List Lin)) (x : (List Edt)), cSizeR.A.wf (p, x, ()) → ∀ (Λ1 : Int → Int → Prop), (∀ (n_1 : Int) (i_1 : Int), cSizeR_1 Λ1 p x (if errX p x = 0 then sizeX p x else 0) (errX p x) n_1 i_1 → Λ1 n_1 i_1) → cSizeR_0 Λ1 p x (if errX p x = 0 then sizeX p x else 0) (errX p x)) : ConOK Go.Proofs.Tryz.prog 33 cSizeR := by
  refine lawL (Γ := [(59, cBothR), (76, cFieldsR)]) (Θ := Th) (n := 38) [([1, 1, 1, 1, 0, 1, 0], ⟨[(0, false), (1, false), (7, true), (8, true)], []⟩)] ⟨cBothR_ok, cFieldsR_ok, trivial⟩ (by kernel_rfl) th_ok mix_ok Go.Proofs.Tryz.func33 (by kernel_rfl) ?_
  intro x hw hp Λ hC
  have h0 := h x.1 x.2.1 hw (fun n_1 i_1 => Λ [1, 1, 1, 1, 0, 1, 0] ([(0, .d false (.sl tL) x.1), (1, .d false (.sl tEd) x.2.1), (7, .d true .int n_1), (8, .d true .int i_1)], [])) (fun n_1 i_1 hb => hC [1, 1, 1, 1, 0, 1, 0] ([(0, .d false (.sl tL) x.1), (1, .d false (.sl tEd) x.2.1), (7, .d true .int n_1), (8, .d true .int i_1)], []) (Eq.mpr (by kernel_rfl) hb))
  exact Eq.mpr (by kernel_rfl) h0
theorem cSizeR_ok : ConOK Go.Proofs.Tryz.prog 33 cSizeR := by
  refine cSizeR_law ?_
  intro p x hw Λ1 h1
  unfold cSizeR_0
  refine ⟨trivial, ?_⟩
  by_cases h : errX p x = 0
  · obtain ⟨g1, g2, g3⟩ := errX_ok h
    have h8 := (validP_ok g1).1
    have h4 := (validX_ok g2).1
    rw [if_neg (by simp [h])]
    refine upto (n := x.length) (Q := fun i => Λ1 (sizeX p (x.take i)) (i : Int)) ?_ ?_ 0 (Nat.zero_le _)
    · apply h1; unfold cSizeR_1
      rw [if_neg (by simp), List.take_length, if_pos h]
      exact ⟨rfl, h.symm, trivial⟩
    · intro i hi ih
      rw [sizeX_take hi] at ih
      have hb := sizeX_bd p (x.take i)
      have hf := fieldsN_bd (p.getD (x.getD i tEd.dflt).1.toNat tL.dflt) (x.getD i tEd.dflt).2.1
      rw [List.length_take] at hb
      have he := g3 _ (mem_getD (d := tEd.dflt) hi)
      apply h1; unfold cSizeR_1
      rw [if_pos (by simpa using hi), Int.toNat_natCast]
      exact ⟨idx_nat hi, he, idx_nat hi, trivial, by unfold inI; omega, by unfold inI; omega, ih⟩
  · rw [if_pos (by simpa using h), if_neg h]
    exact ⟨rfl, rfl, trivial⟩
abbrev cCleanR : Con := { A := (.cons (.sl tL) (.cons (.sl tEd) .nil)), R := (.cons (.osl tEd) (.cons .int .nil)), pre := fun x => True, F := fun x => ((if errX x.1 x.2.1 = 0 then cleanX x.1 x.2.1 else []), errX x.1 x.2.1, ()) }
def cCleanR_0 (Λ1 : Int → (List Edt) → Prop) (p : (List Lin)) (x : (List Edt)) (y0 : (List Edt)) (y1 : Int) : Prop :=
  True ∧ (if ((errX p x) != (0 : Int)) = true then ((errX p x) = y1 ∧ ([] : List Edt) = y0) else Λ1 (0 : Int) ([] : List Edt))
def cCleanR_1 (Λ1 : Int → (List Edt) → Prop) (p : (List Lin)) (x : (List Edt)) (y0 : (List Edt)) (y1 : Int)  (i_1 : Int) (out_1 : (List Edt)) : Prop :=
  if (decide (i_1 < (List.length x : Int))) = true then (idx i_1 (List.length x : Int) ∧ (idx ((List.getD x (Int.toNat i_1) tEd.dflt).1) (List.length p : Int) ∧ (idx i_1 (List.length x : Int) ∧ (if (!(T.eqB tL (List.getD p (Int.toNat ((List.getD x (Int.toNat i_1) tEd.dflt).1)) tL.dflt) ((List.getD x (Int.toNat i_1) tEd.dflt).2.1))) = true then (idx i_1 (List.length x : Int) ∧ (List.length out_1 + List.length [(List.getD x (Int.toNat i_1) tEd.dflt)] ≤ 4294967296 ∧ (inI (i_1 + (1 : Int)) ∧ Λ1 (i_1 + (1 : Int)) (out_1 ++ [(List.getD x (Int.toNat i_1) tEd.dflt)])))) else (inI (i_1 + (1 : Int)) ∧ Λ1 (i_1 + (1 : Int)) out_1))))) else ((0 : Int) = y1 ∧ out_1 = y0)
theorem cCleanR_law (h : ∀ (p : (List Lin)) (x : (List Edt)), cCleanR.A.wf (p, x, ()) → ∀ (Λ1 : Int → (List Edt) → Prop), (∀ (i_1 : Int) (out_1 : (List Edt)), cCleanR_1 Λ1 p x (if errX p x = 0 then cleanX p x else []) (errX p x) i_1 out_1 → Λ1 i_1 out_1) → cCleanR_0 Λ1 p x (if errX p x = 0 then cleanX p x else []) (errX p x)) : ConOK Go.Proofs.Tryz.prog 35 cCleanR := by
  refine lawL (Γ := [(59, cBothR)]) (Θ := Th) (n := 43) [([1, 1, 1, 1, 0, 1, 0], ⟨[(0, false), (1, false), (7, true), (8, true)], [(7, true)]⟩)] ⟨cBothR_ok, trivial⟩ (by kernel_rfl) th_ok mix_ok Go.Proofs.Tryz.func35 (by kernel_rfl) ?_
  intro x hw hp Λ hC
  have h0 := h x.1 x.2.1 hw (fun i_1 out_1 => Λ [1, 1, 1, 1, 0, 1, 0] ([(0, .d false (.sl tL) x.1), (1, .d false (.sl tEd) x.2.1), (7, .own 7 0), (8, .d true .int i_1)], [(7, .sl true tEd out_1)])) (fun i_1 out_1 hb => hC [1, 1, 1, 1, 0, 1, 0] ([(0, .d false (.sl tL) x.1), (1, .d false (.sl tEd) x.2.1), (7, .own 7 0), (8, .d true .int i_1)], [(7, .sl true tEd out_1)]) (Eq.mpr (by kernel_rfl) hb))
  exact Eq.mpr (by kernel_rfl) h0
theorem cCleanR_ok : ConOK Go.Proofs.Tryz.prog 35 cCleanR := by
  refine cCleanR_law ?_
  intro p x hw Λ1 h1
  unfold cCleanR_0
  refine ⟨trivial, ?_⟩
  by_cases h : errX p x = 0
  · obtain ⟨g1, g2, g3⟩ := errX_ok h
    have h4 := (validX_ok g2).1
    rw [if_neg (by simp [h])]
    refine upto (n := x.length) (Q := fun i => Λ1 (i : Int) (cleanX p (x.take i))) ?_ ?_ 0 (Nat.zero_le _)
    · apply h1; unfold cCleanR_1
      rw [if_neg (by simp), List.take_length, if_pos h]
      exact ⟨h.symm, rfl⟩
    · intro i hi ih
      have hcl : (cleanX p (x.take i)).length ≤ i := Nat.le_trans (clean_sub p _).length_le (by simp; omega)
      have hs : cleanX p (x.take (i + 1)) = if p.getD (x.getD i tEd.dflt).1.toNat tL.dflt = (x.getD i tEd.dflt).2.1 then cleanX p (x.take i) else cleanX p (x.take i) ++ [x.getD i tEd.dflt] := by
        unfold cleanX sameE
        rw [take_snoc tEd.dflt hi, List.filter_append]
        split
        · rename_i g
          rw [List.filter_cons_of_neg (by rw [decide_eq_true g]; simp), List.filter_nil, List.append_nil]
        · rename_i g
          rw [List.filter_cons_of_pos (by rw [decide_eq_false g]; rfl), List.filter_nil]
      rw [hs] at ih
      have he := g3 _ (mem_getD (d := tEd.dflt) hi)
      apply h1; unfold cCleanR_1
      rw [if_pos (by simpa using hi), Int.toNat_natCast, eqL]
      refine ⟨idx_nat hi, he, idx_nat hi, ?_⟩
      by_cases g : p.getD (x.getD i tEd.dflt).1.toNat tL.dflt = (x.getD i tEd.dflt).2.1
      · rw [if_pos g] at ih
        rw [if_neg (by rw [decide_eq_true g]; simp)]
        exact ⟨by unfold inI; omega, ih⟩
      · rw [if_neg g] at ih
        rw [if_pos (by rw [decide_eq_false g]; rfl)]
        exact ⟨idx_nat hi, by simp only [List.length_cons, List.length_nil]; omega, by unfold inI; omega, ih⟩
  · rw [if_pos (by simpa using h), if_neg h]
    exact ⟨rfl, rfl⟩
abbrev cAtR4 : Con := { A := (.cons (.sl tEd) (.cons .int .nil)), R := (.cons tL (.cons .bool .nil)), pre := fun x => True, F := fun x => ((lookE (readE x.1) x.2.1).getD tL.dflt, (lookE (readE x.1) x.2.1).isSome, ()) }
def cAtR4_0 (Λ1 : Int → Prop) (x : (List Edt)) (place : Int) (y0 : Lin) (y1 : Bool) : Prop :=
  Λ1 (0 : Int)
def cAtR4_1 (Λ1 : Int → Prop) (x : (List Edt)) (place : Int) (y0 : Lin) (y1 : Bool)  (i_1 : Int) : Prop :=
  if (decide (i_1 < (List.length x : Int))) = true then (idx i_1 (List.length x : Int) ∧ (if ((List.getD x (Int.toNat i_1) tEd.dflt).1 == place) = true then (idx i_1 (List.length x : Int) ∧ ((List.getD x (Int.toNat i_1) tEd.dflt).2.1 = y0 ∧ true = y1 ∧ True)) else (inI (i_1 + (1 : Int)) ∧ Λ1 (i_1 + (1 : Int))))) else ((0, 0, 0, 0, ()) = y0 ∧ false = y1 ∧ True)
theorem cAtR4_law (h : ∀ (x : (List Edt)) (place : Int), cAtR4.A.wf (x, place, ()) → ∀ (Λ1 : Int → Prop), (∀ (i_1 : Int), cAtR4_1 Λ1 x place ((lookE (readE x) place).getD tL.dflt) ((lookE (readE x) place).isSome) i_1 → Λ1 i_1) → cAtR4_0 Λ1 x place ((lookE (readE x) place).getD tL.dflt) ((lookE (readE x) place).isSome)) : ConOK Go.Proofs.Tryz.prog 74 cAtR4 := by
  refine lawL (Γ := []) (Θ := Th) (n := 26) [([1, 0, 1, 0], ⟨[(0, false), (1, false), (4, true), (6, true)], [(4, true)]⟩)] trivial (by kernel_rfl) th_ok mix_ok Go.Proofs.Tryz.func74 (by kernel_rfl) ?_
  intro x hw hp Λ hC
  have h0 := h x.1 x.2.1 hw (fun i_1 => Λ [1, 0, 1, 0] ([(0, .d false (.sl tEd) x.1), (1, .d false .int x.2.1), (4, .ptr 4 0 []), (6, .d true .int i_1)], [(4, .box true tL tL.dflt)])) (fun i_1 hb => hC [1, 0, 1, 0] ([(0, .d false (.sl tEd) x.1), (1, .d false .int x.2.1), (4, .ptr 4 0 []), (6, .d true .int i_1)], [(4, .box true tL tL.dflt)]) (Eq.mpr (by kernel_rfl) hb))
  exact Eq.mpr (by kernel_rfl) h0
theorem cAtR4_ok : ConOK Go.Proofs.Tryz.prog 74 cAtR4 := by
  refine cAtR4_law ?_
  intro x place hw Λ1 h1
  unfold cAtR4_0
  have hxl : x.length ≤ 140737488355328 := hw.1.1
  refine upto (n := x.length) (Q := fun i => (x.take i).any (fun e => e.1 == place) = false → Λ1 (i : Int)) ?_ ?_ 0 (Nat.zero_le _) rfl
  · intro ha
    rw [List.take_length] at ha
    apply h1; unfold cAtR4_1
    rw [if_neg (by simp), look_no ha]
    exact ⟨rfl, rfl, trivial⟩
  · intro i hi ih ha
    apply h1; unfold cAtR4_1
    rw [if_pos (by simpa using hi), Int.toNat_natCast]
    refine ⟨idx_nat hi, ?_⟩
    cases hv : ((x.getD i tEd.dflt).1 == place)
    · rw [if_neg (by simp)]
      exact ⟨inI_succ hi hxl, ih (any_take_next (p := fun e : Edt => e.1 == place) tEd.dflt hi ha hv)⟩
    · rw [if_pos rfl, look_at hi ha (eq_of_beq hv)]
      exact ⟨idx_nat hi, rfl, rfl, trivial⟩
abbrev cThenR : Con := { A := (.cons (.sl tEd) (.cons (.sl tEd) .nil)), R := (.cons (.osl tEd) (.cons .int .nil)), pre := fun x => True, F := fun x => ((if bothX x.1 x.2.1 = 0 then limE (thenE x.1 x.2.1) else []), (if bothX x.1 x.2.1 = 0 then limN (thenE x.1 x.2.1) else bothX x.1 x.2.1), ()) }
def cThenR_0 (Λ1 : Int → (List Edt) → Prop) (x : (List Edt)) (y_ : (List Edt)) (y0 : (List Edt)) (y1 : Int) : Prop :=
  True ∧ (if ((bothX x y_) != (0 : Int)) = true then ((bothX x y_) = y1 ∧ ([] : List Edt) = y0) else Λ1 (0 : Int) ([] : List Edt))
def cThenR_1 (Λ1 : Int → (List Edt) → Prop) (x : (List Edt)) (y_ : (List Edt)) (y0 : (List Edt)) (y1 : Int)  (place_1 : Int) (out_1 : (List Edt)) : Prop :=
  if (decide (place_1 < (8 : Int))) = true then (True ∧ (True ∧ (if ((lookE (readE y_) place_1).isSome) = true then (List.length out_1 + List.length [(place_1, ((lookE (readE y_) place_1).getD tL.dflt), ())] ≤ 4294967296 ∧ (inI (place_1 + (1 : Int)) ∧ Λ1 (place_1 + (1 : Int)) (out_1 ++ [(place_1, ((lookE (readE y_) place_1).getD tL.dflt), ())]))) else (if ((lookE (readE x) place_1).isSome) = true then (List.length out_1 + List.length [(place_1, ((lookE (readE x) place_1).getD tL.dflt), ())] ≤ 4294967296 ∧ (inI (place_1 + (1 : Int)) ∧ Λ1 (place_1 + (1 : Int)) (out_1 ++ [(place_1, ((lookE (readE x) place_1).getD tL.dflt), ())]))) else (inI (place_1 + (1 : Int)) ∧ Λ1 (place_1 + (1 : Int)) out_1))))) else (if (decide ((List.length out_1 : Int) > (4 : Int))) = true then ((3 : Int) = y1 ∧ ([] : List Edt) = y0) else ((0 : Int) = y1 ∧ out_1 = y0))
theorem cThenR_law (h : ∀ (x : (List Edt)) (y_ : (List Edt)), cThenR.A.wf (x, y_, ()) → ∀ (Λ1 : Int → (List Edt) → Prop), (∀ (place_1 : Int) (out_1 : (List Edt)), cThenR_1 Λ1 x y_ (if bothX x y_ = 0 then limE (thenE x y_) else []) (if bothX x y_ = 0 then limN (thenE x y_) else bothX x y_) place_1 out_1 → Λ1 place_1 out_1) → cThenR_0 Λ1 x y_ (if bothX x y_ = 0 then limE (thenE x y_) else []) (if bothX x y_ = 0 then limN (thenE x y_) else bothX x y_)) : ConOK Go.Proofs.Tryz.prog 36 cThenR := by
  refine lawL (Γ := [(74, cAtR4), (73, cTwoR)]) (Θ := Th) (n := 53) [([1, 1, 1, 1, 0, 1, 0], ⟨[(0, false), (1, false), (7, true), (8, true)], [(7, true)]⟩)] ⟨cAtR4_ok, cTwoR_ok, trivial⟩ (by kernel_rfl) th_ok mix_ok Go.Proofs.Tryz.func36 (by kernel_rfl) ?_
  intro x hw hp Λ hC
  have h0 := h x.1 x.2.1 hw (fun place_1 out_1 => Λ [1, 1, 1, 1, 0, 1, 0] ([(0, .d false (.sl tEd) x.1), (1, .d false (.sl tEd) x.2.1), (7, .own 7 0), (8, .d true .int place_1)], [(7, .sl true tEd out_1)])) (fun place_1 out_1 hb => hC [1, 1, 1, 1, 0, 1, 0] ([(0, .d false (.sl tEd) x.1), (1, .d false (.sl tEd) x.2.1), (7, .own 7 0), (8, .d true .int place_1)], [(7, .sl true tEd out_1)]) (Eq.mpr (by kernel_rfl) hb))
  exact Eq.mpr (by kernel_rfl) h0
theorem cThenR_ok : ConOK Go.Proofs.Tryz.prog 36 cThenR := by
  refine cThenR_law ?_
  intro x y_ hw Λ1 h1
  unfold cThenR_0
  refine ⟨trivial, ?_⟩
  by_cases h : bothX x y_ = 0
  · obtain ⟨hvx, hvy⟩ := bothX_ok h
    rw [if_neg (by simp [h])]
    refine upto (n := 8) (Q := fun i => Λ1 (i : Int) (editE (tabE (thnF x y_) i))) ?_ ?_ 0 (Nat.zero_le _)
    · apply h1; unfold cThenR_1
      rw [if_neg (by simp), then_tab hvx hvy, edit_len, if_pos h, if_pos h]
      unfold limN limE
      by_cases g4 : (thenE x y_).length > 4
      · rw [if_pos (by simp; omega), if_pos g4, if_pos g4]; exact ⟨rfl, rfl⟩
      · rw [if_neg (by simp; omega), if_neg g4, if_neg g4]; exact ⟨rfl, rfl⟩
    · intro i hi ih
      have htl := tabE_len (thnF x y_) i
      rw [tabE, edit_app] at ih
      apply h1; unfold cThenR_1
      rw [if_pos (by rw [decide_eq_true_eq]; omega), edit_len]
      refine ⟨trivial, trivial, ?_⟩
      cases e1 : lookE (readE y_) (i : Int) with
      | some l =>
        have et : thnF x y_ i = some l := by unfold thnF; rw [e1]
        rw [et] at ih
        rw [if_pos (by rfl)]
        exact ⟨by simp only [List.length_cons, List.length_nil]; omega, by unfold inI; omega, ih⟩
      | none =>
        have et : thnF x y_ i = lookE (readE x) i := by unfold thnF; rw [e1]
        rw [et] at ih
        rw [if_neg (by simp)]
        cases e2 : lookE (readE x) (i : Int) with
        | some l =>
          rw [e2] at ih
          rw [if_pos (by rfl)]
          exact ⟨by simp only [List.length_cons, List.length_nil]; omega, by unfold inI; omega, ih⟩
        | none =>
          rw [e2] at ih
          rw [if_neg (by simp)]
          exact ⟨by unfold inI; omega, by simpa [editE] using ih⟩
  · rw [if_pos (by simpa using h), if_neg h, if_neg h]
    exact ⟨rfl, rfl⟩
abbrev cMergeR : Con := { A := (.cons (.sl tEd) (.cons (.sl tEd) .nil)), R := (.cons (.osl tEd) (.cons .int .nil)), pre := fun x => True, F := fun x => (mergeX x.1 x.2.1, mergeN x.1 x.2.1, ()) }
def cMergeR_0 (Λ1 : Int → Prop) (x : (List Edt)) (y_ : (List Edt)) (y0 : (List Edt)) (y1 : Int) : Prop :=
  True ∧ (if ((bothX x y_) != (0 : Int)) = true then ((bothX x y_) = y1 ∧ ([] : List Edt) = y0) else Λ1 (0 : Int))
def cMergeR_1 (Λ1 : Int → Prop) (x : (List Edt)) (y_ : (List Edt)) (y0 : (List Edt)) (y1 : Int)  (i_1 : Int) : Prop :=
  if (decide (i_1 < (List.length x : Int))) = true then (idx i_1 (List.length x : Int) ∧ (True ∧ (if ((lookE (readE y_) ((List.getD x (Int.toNat i_1) tEd.dflt).1)).isSome) = true then (idx i_1 (List.length x : Int) ∧ (True ∧ (if (bif true then (!(T.eqB tL ((lookE (readE y_) ((List.getD x (Int.toNat i_1) tEd.dflt).1)).getD tL.dflt) ((List.getD x (Int.toNat i_1) tEd.dflt).2.1))) else false) = true then ((5 : Int) = y1 ∧ ([] : List Edt) = y0) else (inI (i_1 + (1 : Int)) ∧ Λ1 (i_1 + (1 : Int)))))) else (false = false ∧ (inI (i_1 + (1 : Int)) ∧ Λ1 (i_1 + (1 : Int))))))) else (True ∧ (((if bothX x y_ = 0 then limN (thenE x y_) else bothX x y_)) = y1 ∧ ((if bothX x y_ = 0 then limE (thenE x y_) else [])) = y0))
theorem cMergeR_law (h : ∀ (x : (List Edt)) (y_ : (List Edt)), cMergeR.A.wf (x, y_, ()) → ∀ (Λ1 : Int → Prop), (∀ (i_1 : Int), cMergeR_1 Λ1 x y_ (mergeX x y_) (mergeN x y_) i_1 → Λ1 i_1) → cMergeR_0 Λ1 x y_ (mergeX x y_) (mergeN x y_)) : ConOK Go.Proofs.Tryz.prog 30 cMergeR := by
  refine lawL (Γ := [(74, cAtR4), (36, cThenR), (73, cTwoR)]) (Θ := Th) (n := 47) [([1, 1, 1, 0, 1, 0], ⟨[(0, false), (1, false), (7, true)], []⟩)] ⟨cAtR4_ok, cThenR_ok, cTwoR_ok, trivial⟩ (by kernel_rfl) th_ok mix_ok Go.Proofs.Tryz.func30 (by kernel_rfl) ?_
  intro x hw hp Λ hC
  have h0 := h x.1 x.2.1 hw (fun i_1 => Λ [1, 1, 1, 0, 1, 0] ([(0, .d false (.sl tEd) x.1), (1, .d false (.sl tEd) x.2.1), (7, .d true .int i_1)], [])) (fun i_1 hb => hC [1, 1, 1, 0, 1, 0] ([(0, .d false (.sl tEd) x.1), (1, .d false (.sl tEd) x.2.1), (7, .d true .int i_1)], []) (Eq.mpr (by kernel_rfl) hb))
  exact Eq.mpr (by kernel_rfl) h0
theorem cMergeR_ok : ConOK Go.Proofs.Tryz.prog 30 cMergeR := by
  refine cMergeR_law ?_
  intro x y_ hw Λ1 h1
  unfold cMergeR_0
  refine ⟨trivial, ?_⟩
  by_cases h : bothX x y_ = 0
  · obtain ⟨hvx, hvy⟩ := bothX_ok h
    have h4 := (validX_ok hvx).1
    rw [if_neg (by simp [h])]
    have hN : mergeN x y_ = if x.any (clashE (readE y_)) = true then 5 else limN (thenE x y_) := by unfold mergeN; rw [if_pos h, clash_comm hvx hvy]
    have hX : mergeX x y_ = if x.any (clashE (readE y_)) = true then [] else limE (thenE x y_) := by unfold mergeX; rw [if_pos h, clash_comm hvx hvy]
    refine upto (n := x.length) (Q := fun i => (x.take i).any (clashE (readE y_)) = false → Λ1 (i : Int)) ?_ ?_ 0 (Nat.zero_le _) rfl
    · intro ha
      rw [List.take_length] at ha
      apply h1; unfold cMergeR_1
      rw [if_neg (by simp), if_pos h, if_pos h, hN, hX, ha]
      exact ⟨trivial, rfl, rfl⟩
    · intro i hi ih ha
      apply h1; unfold cMergeR_1
      rw [if_pos (by simpa using hi), Int.toNat_natCast]
      refine ⟨idx_nat hi, trivial, ?_⟩
      have go : clashE (readE y_) (x.getD i tEd.dflt) = false → inI ((i : Int) + 1) ∧ Λ1 ((i : Int) + 1) := fun e => ⟨by unfold inI; omega, ih (any_take_next (p := clashE (readE y_)) tEd.dflt hi ha e)⟩
      have bad : clashE (readE y_) (x.getD i tEd.dflt) = true → (5 : Int) = mergeN x y_ ∧ ([] : List Edt) = mergeX x y_ := fun e => by
        have : x.any (clashE (readE y_)) = true := List.any_eq_true.2 ⟨_, mem_getD hi, e⟩
        rw [hN, hX, this]; exact ⟨rfl, rfl⟩
      unfold clashE at go bad
      cases e1 : lookE (readE y_) (x.getD i tEd.dflt).1 with
      | none =>
        simp only [e1] at go
        rw [if_neg (by simp)]
        exact ⟨rfl, go trivial⟩
      | some l =>
        simp only [e1] at go bad
        rw [if_pos (by rfl)]
        refine ⟨idx_nat hi, trivial, ?_⟩
        simp only [eqL, Option.getD_some, cond_true]
        cases e2 : decide (l = (x.getD i tEd.dflt).2.1)
        · rw [if_pos (by rfl)]
          exact bad (by rw [e2]; rfl)
        · rw [if_neg (by simp)]
          exact go (by rw [e2]; rfl)
  · rw [if_pos (by simpa using h)]
    unfold mergeN mergeX
    rw [if_neg h, if_neg h]
    exact ⟨rfl, rfl⟩
abbrev cTouchR : Con := { A := (.cons (.sl tEd) .nil), R := (.cons (.osl .int) (.cons .int .nil)), pre := fun x => True, F := fun x => ((if validX x.1 = 0 then x.1.map (·.1) else []), validX x.1, ()) }
def cTouchR_0 (Λ1 : Int → (List Int) → Prop) (x : (List Edt)) (y0 : (List Int)) (y1 : Int) : Prop :=
  True ∧ (if ((validX x) != (0 : Int)) = true then ((validX x) = y1 ∧ ([] : List Int) = y0) else Λ1 (0 : Int) ([] : List Int))
def cTouchR_1 (Λ1 : Int → (List Int) → Prop) (x : (List Edt)) (y0 : (List Int)) (y1 : Int)  (i_1 : Int) (out_1 : (List Int)) : Prop :=
  if (decide (i_1 < (List.length x : Int))) = true then (idx i_1 (List.length x : Int) ∧ (List.length out_1 + List.length [(List.getD x (Int.toNat i_1) tEd.dflt).1] ≤ 4294967296 ∧ (inI (i_1 + (1 : Int)) ∧ Λ1 (i_1 + (1 : Int)) (out_1 ++ [(List.getD x (Int.toNat i_1) tEd.dflt).1])))) else ((0 : Int) = y1 ∧ out_1 = y0)
theorem cTouchR_law (h : ∀ (x : (List Edt)), cTouchR.A.wf (x, ()) → ∀ (Λ1 : Int → (List Int) → Prop), (∀ (i_1 : Int) (out_1 : (List Int)), cTouchR_1 Λ1 x (if validX x = 0 then x.map (·.1) else []) (validX x) i_1 out_1 → Λ1 i_1 out_1) → cTouchR_0 Λ1 x (if validX x = 0 then x.map (·.1) else []) (validX x)) : ConOK Go.Proofs.Tryz.prog 45 cTouchR := by
  refine lawL (Γ := [(20, cVal4R)]) (Θ := Th) (n := 27) [([1, 1, 1, 1, 0, 1, 0], ⟨[(0, false), (5, true), (6, true)], [(5, true)]⟩)] ⟨cVal4R_ok, trivial⟩ (by kernel_rfl) th_ok mix_ok Go.Proofs.Tryz.func45 (by kernel_rfl) ?_
  intro x hw hp Λ hC
  have h0 := h x.1 hw (fun i_1 out_1 => Λ [1, 1, 1, 1, 0, 1, 0] ([(0, .d false (.sl tEd) x.1), (5, .own 5 0), (6, .d true .int i_1)], [(5, .sl true .int out_1)])) (fun i_1 out_1 hb => hC [1, 1, 1, 1, 0, 1, 0] ([(0, .d false (.sl tEd) x.1), (5, .own 5 0), (6, .d true .int i_1)], [(5, .sl true .int out_1)]) (Eq.mpr (by kernel_rfl) hb))
  exact Eq.mpr (by kernel_rfl) h0
theorem cTouchR_ok : ConOK Go.Proofs.Tryz.prog 45 cTouchR := by
  refine cTouchR_law ?_
  intro x hw Λ1 h1
  unfold cTouchR_0
  refine ⟨trivial, ?_⟩
  by_cases h : validX x = 0
  · have h4 := (validX_ok h).1
    rw [if_neg (by simp [h])]
    refine upto (n := x.length) (Q := fun i => Λ1 (i : Int) ((x.map (·.1)).take i)) ?_ ?_ 0 (Nat.zero_le _)
    · apply h1; unfold cTouchR_1
      rw [if_neg (by simp), if_pos h, List.take_of_length_le (by simp)]
      exact ⟨h.symm, rfl⟩
    · intro i hi ih
      rw [map_take_next (fun e : Edt => e.1) x tEd.dflt hi] at ih
      apply h1; unfold cTouchR_1
      rw [if_pos (by simpa using hi), Int.toNat_natCast]
      exact ⟨idx_nat hi, by simp; omega, by unfold inI; omega, ih⟩
  · rw [if_pos (by simpa using h), if_neg h]
    exact ⟨rfl, rfl⟩
abbrev cKeepR : Con := { A := (.cons (.sl tEd) (.cons (.sl .int) .nil)), R := (.cons (.osl tEd) (.cons .int .nil)), pre := fun x => True, F := fun x => (keepX x.1 x.2.1, keepN x.1 x.2.1, ()) }
def cKeepR_0 (Λ1 : Int → (List Bool) → Prop) (Λ2 : (List Bool) → Int → (List Edt) → Prop) (x : (List Edt)) (places : (List Int)) (y0 : (List Edt)) (y1 : Int) : Prop :=
  True ∧ (if ((validX x) != (0 : Int)) = true then ((validX x) = y1 ∧ ([] : List Edt) = y0) else Λ1 (0 : Int) (List.replicate 8 false))
def cKeepR_1 (Λ1 : Int → (List Bool) → Prop) (Λ2 : (List Bool) → Int → (List Edt) → Prop) (x : (List Edt)) (places : (List Int)) (y0 : (List Edt)) (y1 : Int)  (i_1 : Int) (in_1 : (List Bool)) : Prop :=
  if (decide (i_1 < (List.length places : Int))) = true then (idx i_1 (List.length places : Int) ∧ (if (decide ((List.getD places (Int.toNat i_1) 0) < (0 : Int))) = true then (true = true ∧ (true = true ∧ ((1 : Int) = y1 ∧ ([] : List Edt) = y0))) else (idx i_1 (List.length places : Int) ∧ (True ∧ (if (bif false then true else (decide ((List.getD places (Int.toNat i_1) 0) ≥ (8 : Int)))) = true then (true = true ∧ ((1 : Int) = y1 ∧ ([] : List Edt) = y0)) else (if (decide (i_1 > (0 : Int))) = true then (inI (i_1 - (1 : Int)) ∧ (idx (i_1 - (1 : Int)) (List.length places : Int) ∧ (idx i_1 (List.length places : Int) ∧ (True ∧ (True ∧ (if (bif false then true else (bif true then (decide ((List.getD places (Int.toNat (i_1 - (1 : Int))) 0) ≥ (List.getD places (Int.toNat i_1) 0))) else false)) = true then ((1 : Int) = y1 ∧ ([] : List Edt) = y0) else (idx i_1 (List.length places : Int) ∧ (idx (List.getD places (Int.toNat i_1) 0) (8 : Int) ∧ (inI (i_1 + (1 : Int)) ∧ Λ1 (i_1 + (1 : Int)) (List.set in_1 (Int.toNat (List.getD places (Int.toNat i_1) 0)) true)))))))))) else (false = false ∧ (True ∧ (if (bif false then true else false) = true then ((1 : Int) = y1 ∧ ([] : List Edt) = y0) else (idx i_1 (List.length places : Int) ∧ (idx (List.getD places (Int.toNat i_1) 0) (8 : Int) ∧ (inI (i_1 + (1 : Int)) ∧ Λ1 (i_1 + (1 : Int)) (List.set in_1 (Int.toNat (List.getD places (Int.toNat i_1) 0)) true))))))))))))) else Λ2 in_1 (0 : Int) ([] : List Edt)
def cKeepR_2 (Λ1 : Int → (List Bool) → Prop) (Λ2 : (List Bool) → Int → (List Edt) → Prop) (x : (List Edt)) (places : (List Int)) (y0 : (List Edt)) (y1 : Int) (in_1 : (List Bool)) (i_2 : Int) (out_2 : (List Edt)) : Prop :=
  if (decide (i_2 < (List.length x : Int))) = true then (idx i_2 (List.length x : Int) ∧ (idx ((List.getD x (Int.toNat i_2) tEd.dflt).1) (8 : Int) ∧ (if (List.getD in_1 (Int.toNat ((List.getD x (Int.toNat i_2) tEd.dflt).1)) false) = true then (idx i_2 (List.length x : Int) ∧ (List.length out_2 + List.length [(List.getD x (Int.toNat i_2) tEd.dflt)] ≤ 4294967296 ∧ (inI (i_2 + (1 : Int)) ∧ Λ2 in_1 (i_2 + (1 : Int)) (out_2 ++ [(List.getD x (Int.toNat i_2) tEd.dflt)])))) else (inI (i_2 + (1 : Int)) ∧ Λ2 in_1 (i_2 + (1 : Int)) out_2)))) else ((0 : Int) = y1 ∧ out_2 = y0)
theorem cKeepR_law (h : ∀ (x : (List Edt)) (places : (List Int)), cKeepR.A.wf (x, places, ()) → ∀ (Λ1 : Int → (List Bool) → Prop) (Λ2 : (List Bool) → Int → (List Edt) → Prop), (∀ (i_1 : Int) (in_1 : (List Bool)), cKeepR_1 Λ1 Λ2 x places (keepX x places) (keepN x places) i_1 in_1 → Λ1 i_1 in_1) → (∀ (in_1 : (List Bool)) (i_2 : Int) (out_2 : (List Edt)), cKeepR_2 Λ1 Λ2 x places (keepX x places) (keepN x places) in_1 i_2 out_2 → Λ2 in_1 i_2 out_2) → cKeepR_0 Λ1 Λ2 x places (keepX x places) (keepN x places)) : ConOK Go.Proofs.Tryz.prog 43 cKeepR := by
  refine lawL (Γ := [(20, cVal4R)]) (Θ := Th) (n := 76) [([1, 1, 1, 1, 0, 1, 0], ⟨[(0, false), (1, false), (7, true), (8, true)], [(7, true)]⟩), ([1, 1, 1, 1, 1, 1, 0, 1, 0], ⟨[(0, false), (7, true), (9, true), (10, true)], [(7, true), (9, true)]⟩)] ⟨cVal4R_ok, trivial⟩ (by kernel_rfl) th_ok mix_ok Go.Proofs.Tryz.func43 (by kernel_rfl) ?_
  intro x hw hp Λ hC
  have h0 := h x.1 x.2.1 hw (fun i_1 in_1 => Λ [1, 1, 1, 1, 0, 1, 0] ([(0, .d false (.sl tEd) x.1), (1, .d false (.sl .int) x.2.1), (7, .ptr 7 0 []), (8, .d true .int i_1)], [(7, .box true (.arr 8 .bool) in_1)])) (fun in_1 i_2 out_2 => Λ [1, 1, 1, 1, 1, 1, 0, 1, 0] ([(0, .d false (.sl tEd) x.1), (7, .ptr 7 0 []), (9, .own 9 0), (10, .d true .int i_2)], [(7, .box true (.arr 8 .bool) in_1), (9, .sl true tEd out_2)])) (fun i_1 in_1 hb => hC [1, 1, 1, 1, 0, 1, 0] ([(0, .d false (.sl tEd) x.1), (1, .d false (.sl .int) x.2.1), (7, .ptr 7 0 []), (8, .d true .int i_1)], [(7, .box true (.arr 8 .bool) in_1)]) (Eq.mpr (by kernel_rfl) hb)) (fun in_1 i_2 out_2 hb => hC [1, 1, 1, 1, 1, 1, 0, 1, 0] ([(0, .d false (.sl tEd) x.1), (7, .ptr 7 0 []), (9, .own 9 0), (10, .d true .int i_2)], [(7, .box true (.arr 8 .bool) in_1), (9, .sl true tEd out_2)]) (Eq.mpr (by kernel_rfl) hb))
  exact Eq.mpr (by kernel_rfl) h0
theorem cKeepR_ok : ConOK Go.Proofs.Tryz.prog 43 cKeepR := by
  refine cKeepR_law ?_
  intro x places hw Λ1 Λ2 h1 h2
  unfold cKeepR_0
  refine ⟨trivial, ?_⟩
  by_cases h : validX x = 0
  · have hv := validX_ok h
    have h4 := hv.1
    have hpl : places.length ≤ 140737488355328 := hw.2.1.1
    rw [if_neg (by simp [h])]
    have hN : keepN x places = argErr (okPl places places.length) := by unfold keepN; rw [if_pos h]
    have bad : ∀ i, i < places.length → okPl places (i + 1) = false → (1 : Int) = keepN x places ∧ ([] : List Edt) = keepX x places := by
      intro i hi e
      have e1 : keepN x places = 1 := by rw [hN, okPl_false e _ hi]; rfl
      exact ⟨e1.symm, by unfold keepX; rw [if_neg (by omega)]⟩
    have e0 : List.replicate 8 false = inArr places 0 := rfl
    rw [e0]
    refine upto (n := places.length) (Q := fun i => okPl places i = true → Λ1 (i : Int) (inArr places i)) ?_ ?_ 0 (Nat.zero_le _) rfl
    · intro ha
      have e1 : keepN x places = 0 := by rw [hN, ha]; rfl
      apply h1; unfold cKeepR_1
      rw [if_neg (by simp)]
      have eX : keepX x places = x.filter fun e => decide (e.1 ∈ places) := by unfold keepX; rw [if_pos e1]
      refine upto (n := x.length) (Q := fun i => Λ2 (inArr places places.length) (i : Int) ((x.take i).filter fun e => decide (e.1 ∈ places))) ?_ ?_ 0 (Nat.zero_le _)
      · apply h2; unfold cKeepR_2
        rw [if_neg (by simp), List.take_length, eX]
        exact ⟨e1.symm, rfl⟩
      · intro i hi ih
        have hfl : ((x.take i).filter fun e => decide (e.1 ∈ places)).length ≤ i := Nat.le_trans (List.length_filter_le _ _) (by simp; omega)
        have he := hv.2 _ (mem_getD (d := tEd.dflt) hi)
        rw [take_snoc tEd.dflt hi, List.filter_append] at ih
        apply h2; unfold cKeepR_2
        rw [if_pos (by simpa using hi), Int.toNat_natCast]
        refine ⟨idx_nat hi, ⟨he.1, he.2⟩, ?_⟩
        rw [inArr_get places places.length (by omega), List.take_length, show (((x.getD i tEd.dflt).1.toNat : Nat) : Int) = (x.getD i tEd.dflt).1 by omega]
        cases g : decide ((x.getD i tEd.dflt).1 ∈ places)
        · rw [List.filter_cons_of_neg (by rw [g]; simp), List.filter_nil, List.append_nil] at ih
          rw [if_neg (by simp)]
          exact ⟨by unfold inI; omega, ih⟩
        · rw [List.filter_cons_of_pos (by rw [g]), List.filter_nil] at ih
          rw [if_pos rfl]
          exact ⟨idx_nat hi, by simp only [List.length_cons, List.length_nil]; omega, by unfold inI; omega, ih⟩
    · intro i hi ih ha
      apply h1; unfold cKeepR_1
      rw [if_pos (by simpa using hi), Int.toNat_natCast]
      refine ⟨idx_nat hi, ?_⟩
      have hs : okPl places (i + 1) = !(decide (places.getD i 0 < 0) || decide (places.getD i 0 ≥ 8) || (decide (i > 0) && decide (places.getD (i - 1) 0 ≥ places.getD i 0))) := by
        rw [okPl, ha, Bool.true_and]
      by_cases c1 : places.getD i 0 < 0
      · rw [if_pos (by simpa using c1)]
        exact ⟨rfl, rfl, bad i hi (by rw [hs, decide_eq_true c1]; rfl)⟩
      · rw [if_neg (by simpa using c1)]
        refine ⟨idx_nat hi, trivial, ?_⟩
        by_cases c2 : places.getD i 0 ≥ 8
        · rw [if_pos (by rw [decide_eq_true c2]; rfl)]
          exact ⟨rfl, bad i hi (by rw [hs, decide_eq_true c2]; simp)⟩
        · rw [if_neg (by rw [decide_eq_false c2]; simp)]
          have hset := inArr_set (a := places) hi (by omega) (by omega)
          by_cases c3 : i > 0
          · rw [if_pos (by simp; omega)]
            have e3 : ((i : Int) - 1).toNat = i - 1 := by omega
            rw [e3]
            refine ⟨by unfold inI; omega, by unfold idx; omega, idx_nat hi, trivial, trivial, ?_⟩
            by_cases c4 : places.getD (i - 1) 0 ≥ places.getD i 0
            · rw [if_pos (by rw [decide_eq_true c4]; rfl)]
              exact bad i hi (by rw [hs, decide_eq_true c3, decide_eq_true c4]; simp)
            · rw [if_neg (by rw [decide_eq_false c4]; simp)]
              refine ⟨idx_nat hi, by unfold idx; omega, by unfold inI; omega, ?_⟩
              rw [hset]
              exact ih (by rw [hs, decide_eq_false c1, decide_eq_false c2, decide_eq_false c4]; simp)
          · rw [if_neg (by simp; omega)]
            refine ⟨rfl, trivial, ?_⟩
            rw [if_neg (by simp)]
            refine ⟨idx_nat hi, by unfold idx; omega, by unfold inI; omega, ?_⟩
            rw [hset]
            exact ih (by rw [hs, decide_eq_false c1, decide_eq_false c2, decide_eq_false c3]; simp)
  · rw [if_pos (by simpa using h)]
    have hN : keepN x places = validX x := by unfold keepN; rw [if_neg h]
    exact ⟨hN.symm, by unfold keepX; rw [if_neg (by rw [hN]; exact h)]⟩
abbrev cThreeR : Con := { A := (.cons (.sl tL) (.cons (.sl tL) (.cons (.sl tL) .nil))), R := (.cons (.osl tL) (.cons (.sl .int) (.cons .int .nil))), pre := fun x => True, F := fun x => ((if threeN x.1 x.2.1 x.2.2.1 = 0 then threeP x.1 x.2.1 x.2.2.1 x.1.length else []), (if threeN x.1 x.2.1 x.2.2.1 = 0 then threeI x.1 x.2.1 x.2.2.1 x.1.length else []), threeN x.1 x.2.1 x.2.2.1, ()) }
def cThreeR_0 (Λ1 : Int → Prop) (Λ2 : Int → (List Lin) → (List Int) → Prop) (base : (List Lin)) (a : (List Lin)) (b : (List Lin)) (y0 : (List Lin)) (y1 : (List Int)) (y2 : Int) : Prop :=
  Λ1 (0 : Int)
def cThreeR_1 (Λ1 : Int → Prop) (Λ2 : Int → (List Lin) → (List Int) → Prop) (base : (List Lin)) (a : (List Lin)) (b : (List Lin)) (y0 : (List Lin)) (y1 : (List Int)) (y2 : Int)  (i_1 : Int) : Prop :=
  if (decide (i_1 < (3 : Int))) = true then (idx i_1 (List.length [base, a, b] : Int) ∧ (True ∧ (if ((validP (List.getD [base, a, b] (Int.toNat i_1) ([] : List Lin))) != (0 : Int)) = true then (([] : List Int) = y1 ∧ (validP (List.getD [base, a, b] (Int.toNat i_1) ([] : List Lin))) = y2 ∧ ([] : List Lin) = y0) else (inI (i_1 + (1 : Int)) ∧ Λ1 (i_1 + (1 : Int)))))) else (if ((List.length a : Int) != (List.length base : Int)) = true then (true = true ∧ (([] : List Int) = y1 ∧ (9 : Int) = y2 ∧ ([] : List Lin) = y0)) else (True ∧ (if (bif false then true else ((List.length b : Int) != (List.length base : Int))) = true then (([] : List Int) = y1 ∧ (9 : Int) = y2 ∧ ([] : List Lin) = y0) else Λ2 (0 : Int) ([] : List Lin) ([] : List Int))))
def cThreeR_2 (Λ1 : Int → Prop) (Λ2 : Int → (List Lin) → (List Int) → Prop) (base : (List Lin)) (a : (List Lin)) (b : (List Lin)) (y0 : (List Lin)) (y1 : (List Int)) (y2 : Int)  (i_2 : Int) (out_2 : (List Lin)) (conflicts_2 : (List Int)) : Prop :=
  if (decide (i_2 < (List.length base : Int))) = true then (idx i_2 (List.length base : Int) ∧ (idx i_2 (List.length a : Int) ∧ (idx i_2 (List.length b : Int) ∧ (if (T.eqB tL (List.getD a (Int.toNat i_2) tL.dflt) (List.getD b (Int.toNat i_2) tL.dflt)) = true then (true = true ∧ (idx i_2 (List.length a : Int) ∧ (List.length out_2 + List.length [(List.getD a (Int.toNat i_2) tL.dflt)] ≤ 4294967296 ∧ (inI (i_2 + (1 : Int)) ∧ Λ2 (i_2 + (1 : Int)) (out_2 ++ [(List.getD a (Int.toNat i_2) tL.dflt)]) conflicts_2)))) else (idx i_2 (List.length b : Int) ∧ (idx i_2 (List.length base : Int) ∧ (True ∧ (if (bif false then true else (T.eqB tL (List.getD b (Int.toNat i_2) tL.dflt) (List.getD base (Int.toNat i_2) tL.dflt))) = true then (idx i_2 (List.length a : Int) ∧ (List.length out_2 + List.length [(List.getD a (Int.toNat i_2) tL.dflt)] ≤ 4294967296 ∧ (inI (i_2 + (1 : Int)) ∧ Λ2 (i_2 + (1 : Int)) (out_2 ++ [(List.getD a (Int.toNat i_2) tL.dflt)]) conflicts_2))) else (idx i_2 (List.length a : Int) ∧ (idx i_2 (List.length base : Int) ∧ (if (T.eqB tL (List.getD a (Int.toNat i_2) tL.dflt) (List.getD base (Int.toNat i_2) tL.dflt)) = true then (idx i_2 (List.length b : Int) ∧ (List.length out_2 + List.length [(List.getD b (Int.toNat i_2) tL.dflt)] ≤ 4294967296 ∧ (inI (i_2 + (1 : Int)) ∧ Λ2 (i_2 + (1 : Int)) (out_2 ++ [(List.getD b (Int.toNat i_2) tL.dflt)]) conflicts_2))) else (List.length conflicts_2 + List.length [i_2] ≤ 4294967296 ∧ (List.length out_2 + List.length [(List.getD base (Int.toNat i_2) tL.dflt)] ≤ 4294967296 ∧ (inI (i_2 + (1 : Int)) ∧ Λ2 (i_2 + (1 : Int)) (out_2 ++ [(List.getD base (Int.toNat i_2) tL.dflt)]) (conflicts_2 ++ [i_2]))))))))))))))) else (conflicts_2 = y1 ∧ (0 : Int) = y2 ∧ out_2 = y0)
theorem cThreeR_law (h : ∀ (base : (List Lin)) (a : (List Lin)) (b : (List Lin)), cThreeR.A.wf (base, a, b, ()) → ∀ (Λ1 : Int → Prop) (Λ2 : Int → (List Lin) → (List Int) → Prop), (∀ (i_1 : Int), cThreeR_1 Λ1 Λ2 base a b (if threeN base a b = 0 then threeP base a b base.length else []) (if threeN base a b = 0 then threeI base a b base.length else []) (threeN base a b) i_1 → Λ1 i_1) → (∀ (i_2 : Int) (out_2 : (List Lin)) (conflicts_2 : (List Int)), cThreeR_2 Λ1 Λ2 base a b (if threeN base a b = 0 then threeP base a b base.length else []) (if threeN base a b = 0 then threeI base a b base.length else []) (threeN base a b) i_2 out_2 conflicts_2 → Λ2 i_2 out_2 conflicts_2) → cThreeR_0 Λ1 Λ2 base a b (if threeN base a b = 0 then threeP base a b base.length else []) (if threeN base a b = 0 then threeI base a b base.length else []) (threeN base a b)) : ConOK Go.Proofs.Tryz.prog 38 cThreeR := by
  refine lawL (Γ := [(81, cValPR)]) (Θ := Th) (n := 101) [([1, 1, 0, 1, 0], ⟨[(0, false), (1, false), (2, false), (9, true), (10, true)], [(19, false)]⟩), ([1, 1, 1, 1, 1, 1, 0, 1, 0], ⟨[(0, false), (1, false), (2, false), (12, true), (13, true), (14, true)], [(12, true), (13, true)]⟩)] ⟨cValPR_ok, trivial⟩ (by kernel_rfl) th_ok mix_ok Go.Proofs.Tryz.func38 (by kernel_rfl) ?_
  intro x hw hp Λ hC
  have h0 := h x.1 x.2.1 x.2.2.1 hw (fun i_1 => Λ [1, 1, 0, 1, 0] ([(0, .d false (.sl tL) x.1), (1, .d false (.sl tL) x.2.1), (2, .d false (.sl tL) x.2.2.1), (9, .own 19 0), (10, .d true .int i_1)], [(19, .sl false (.sl tL) [x.1, x.2.1, x.2.2.1])])) (fun i_2 out_2 conflicts_2 => Λ [1, 1, 1, 1, 1, 1, 0, 1, 0] ([(0, .d false (.sl tL) x.1), (1, .d false (.sl tL) x.2.1), (2, .d false (.sl tL) x.2.2.1), (12, .own 12 0), (13, .own 13 0), (14, .d true .int i_2)], [(12, .sl true tL out_2), (13, .sl true .int conflicts_2)])) (fun i_1 hb => hC [1, 1, 0, 1, 0] ([(0, .d false (.sl tL) x.1), (1, .d false (.sl tL) x.2.1), (2, .d false (.sl tL) x.2.2.1), (9, .own 19 0), (10, .d true .int i_1)], [(19, .sl false (.sl tL) [x.1, x.2.1, x.2.2.1])]) (Eq.mpr (by kernel_rfl) hb)) (fun i_2 out_2 conflicts_2 hb => hC [1, 1, 1, 1, 1, 1, 0, 1, 0] ([(0, .d false (.sl tL) x.1), (1, .d false (.sl tL) x.2.1), (2, .d false (.sl tL) x.2.2.1), (12, .own 12 0), (13, .own 13 0), (14, .d true .int i_2)], [(12, .sl true tL out_2), (13, .sl true .int conflicts_2)]) (Eq.mpr (by kernel_rfl) hb))
  exact Eq.mpr (by kernel_rfl) h0
theorem cThreeR_ok : ConOK Go.Proofs.Tryz.prog 38 cThreeR := by
  refine cThreeR_law ?_
  intro base a b hw Λ1 Λ2 h1 h2
  unfold cThreeR_0
  have e0 : List.getD [base, a, b] (Int.toNat (0 : Int)) ([] : List Lin) = base := rfl
  have e1 : List.getD [base, a, b] (Int.toNat (1 : Int)) ([] : List Lin) = a := rfl
  have e2 : List.getD [base, a, b] (Int.toNat (2 : Int)) ([] : List Lin) = b := rfl
  have hE : threeN base a b = if err3 base a b = 0 then (if a.length = base.length ∧ b.length = base.length then 0 else 9) else err3 base a b := rfl
  have bad : ¬ err3 base a b = 0 → ([] : List Int) = (if threeN base a b = 0 then threeI base a b base.length else []) ∧ err3 base a b = threeN base a b ∧ ([] : List Lin) = (if threeN base a b = 0 then threeP base a b base.length else []) := by
    intro g
    rw [if_neg g] at hE
    rw [hE, if_neg g, if_neg g]; exact ⟨rfl, rfl, rfl⟩
  have s3 : err3 base a b = 0 → Λ1 3 := by
    intro g
    rw [if_pos g] at hE
    apply h1; unfold cThreeR_1
    rw [if_neg (by decide)]
    by_cases ha : a.length = base.length
    · rw [if_neg (by simp [ha])]
      refine ⟨trivial, ?_⟩
      by_cases hb : b.length = base.length
      · rw [if_neg (by simp [hb])]
        rw [if_pos ⟨ha, hb⟩] at hE
        have hv : validP base = 0 := (three_ok hE).1
        have h8 := (validP_ok hv).1
        refine upto (n := base.length) (Q := fun i => Λ2 (i : Int) (threeP base a b i) (threeI base a b i)) ?_ ?_ 0 (Nat.zero_le _)
        · apply h2; unfold cThreeR_2
          rw [if_neg (by simp), hE, if_pos rfl, if_pos rfl]
          exact ⟨rfl, rfl, rfl⟩
        · intro i hi ih
          have hil := threeI_len base a b i
          have hpl := threeP_len base a b i
          rw [threeI_succ, threeP_succ] at ih
          apply h2; unfold cThreeR_2
          rw [if_pos (by simpa using hi), Int.toNat_natCast, eqL, eqL, eqL]
          refine ⟨idx_nat hi, idx_nat (by omega), idx_nat (by omega), ?_⟩
          by_cases c1 : a.getD i tL.dflt = b.getD i tL.dflt
          · rw [if_pos (decide_eq_true c1)]
            have hL : threeL base a b i = a.getD i tL.dflt := by unfold threeL; rw [if_pos (.inr c1)]
            have hC : threeC base a b i = false := by unfold threeC; rw [decide_eq_true c1]; simp
            rw [hL, hC, if_neg (by simp)] at ih
            exact ⟨rfl, idx_nat (by omega), by simp only [List.length_cons, List.length_nil]; omega, by unfold inI; omega, ih⟩
          · rw [if_neg (by rw [decide_eq_false c1]; simp)]
            refine ⟨idx_nat (by omega), idx_nat hi, trivial, ?_⟩
            by_cases c2 : b.getD i tL.dflt = base.getD i tL.dflt
            · rw [if_pos (by rw [decide_eq_true c2]; rfl)]
              have hL : threeL base a b i = a.getD i tL.dflt := by unfold threeL; rw [if_pos (.inl c2)]
              have hC : threeC base a b i = false := by unfold threeC; rw [decide_eq_true c2]; simp
              rw [hL, hC, if_neg (by simp)] at ih
              exact ⟨idx_nat (by omega), by simp only [List.length_cons, List.length_nil]; omega, by unfold inI; omega, ih⟩
            · rw [if_neg (by rw [decide_eq_false c2]; simp)]
              have hor : ¬ (b.getD i tL.dflt = base.getD i tL.dflt ∨ a.getD i tL.dflt = b.getD i tL.dflt) := fun h => h.elim c2 c1
              refine ⟨idx_nat (by omega), idx_nat hi, ?_⟩
              by_cases c3 : a.getD i tL.dflt = base.getD i tL.dflt
              · rw [if_pos (decide_eq_true c3)]
                have hL : threeL base a b i = b.getD i tL.dflt := by unfold threeL; rw [if_neg hor, if_pos c3]
                have hC : threeC base a b i = false := by unfold threeC; rw [decide_eq_true c3]; simp
                rw [hL, hC, if_neg (by simp)] at ih
                exact ⟨idx_nat (by omega), by simp only [List.length_cons, List.length_nil]; omega, by unfold inI; omega, ih⟩
              · rw [if_neg (by rw [decide_eq_false c3]; simp)]
                have hL : threeL base a b i = base.getD i tL.dflt := by unfold threeL; rw [if_neg hor, if_neg c3]
                have hC : threeC base a b i = true := by unfold threeC; rw [decide_eq_false c1, decide_eq_false c2, decide_eq_false c3]; rfl
                rw [hL, hC, if_pos rfl] at ih
                exact ⟨by simp only [List.length_cons, List.length_nil]; omega, by simp only [List.length_cons, List.length_nil]; omega, by unfold inI; omega, ih⟩
      · rw [if_pos (by simp; omega)]
        rw [if_neg (fun g => hb g.2)] at hE
        rw [hE]; exact ⟨rfl, rfl, rfl⟩
    · rw [if_pos (by simp; omega)]
      rw [if_neg (fun g => ha g.1)] at hE
      rw [hE]; exact ⟨rfl, rfl, rfl, rfl⟩
  have s2 : validP base = 0 → validP a = 0 → Λ1 2 := by
    intro g0 g1
    have he : err3 base a b = validP b := by unfold err3; rw [if_pos g0, if_pos g1]
    apply h1; unfold cThreeR_1
    rw [if_pos (by decide), e2]
    refine ⟨by unfold idx; simp, trivial, ?_⟩
    by_cases g : validP b = 0
    · rw [if_neg (by simp [g])]
      exact ⟨by unfold inI; omega, s3 (by rw [he]; exact g)⟩
    · rw [if_pos (by simpa using g), ← he]
      exact bad (by rw [he]; exact g)
  have s1 : validP base = 0 → Λ1 1 := by
    intro g0
    apply h1; unfold cThreeR_1
    rw [if_pos (by decide), e1]
    refine ⟨by unfold idx; simp, trivial, ?_⟩
    by_cases g : validP a = 0
    · rw [if_neg (by simp [g])]
      exact ⟨by unfold inI; omega, s2 g0 g⟩
    · have he : err3 base a b = validP a := by unfold err3; rw [if_pos g0, if_neg g]
      rw [if_pos (by simpa using g), ← he]
      exact bad (by rw [he]; exact g)
  apply h1; unfold cThreeR_1
  rw [if_pos (by decide), e0]
  refine ⟨by unfold idx; simp, trivial, ?_⟩
  by_cases g : validP base = 0
  · rw [if_neg (by simp [g])]
    exact ⟨by unfold inI; omega, s1 g⟩
  · have he : err3 base a b = validP base := by unfold err3; rw [if_neg g]
    rw [if_pos (by simpa using g), ← he]
    exact bad (by rw [he]; exact g)
abbrev cPass4R : Con := { A := (.cons (.sl tL) (.cons tTs .nil)), R := (.cons .bool .nil), pre := fun x => True, F := fun x => (passE x.1 x.2.1, ()) }
def cPass4R_0  (p : (List Lin)) (t : Tst) (y0 : Bool) : Prop :=
  True ∧ (if ((errT [p] [t]) == (0 : Int)) = true then (True ∧ ((bif true then ((errT [p] [t] == 0 && passT p t)) else false) = y0 ∧ True)) else (false = false ∧ (false = y0 ∧ True)))
theorem cPass4R_law (h : ∀ (p : (List Lin)) (t : Tst), cPass4R.A.wf (p, t, ()) → cPass4R_0  p t (passE p t)) : ConOK Go.Proofs.Tryz.prog 117 cPass4R := by
  refine lawL (Γ := [(133, cPassesR)]) (Θ := Th) (n := 18) [] ⟨cPassesR_ok, trivial⟩ (by kernel_rfl) th_ok mix_ok Go.Proofs.Tryz.func117 (by kernel_rfl) ?_
  intro x hw hp Λ hC
  have h0 := h x.1 x.2.1 hw  
  exact Eq.mpr (by kernel_rfl) h0
theorem cPass4R_ok : ConOK Go.Proofs.Tryz.prog 117 cPass4R := by
  refine cPass4R_law ?_
  intro p t hw
  unfold cPass4R_0
  refine ⟨trivial, ?_⟩
  unfold passE
  by_cases e : errT [p] [t] = 0
  · rw [if_pos (by simpa using e)]
    exact ⟨trivial, rfl, trivial⟩
  · have e' : (errT [p] [t] == 0) = false := by simpa using e
    rw [if_neg (by rw [e']; simp), e']
    exact ⟨rfl, rfl, trivial⟩
abbrev cPassAll : Con := { A := (.cons (.sl tL) (.cons (.sl tTs) .nil)), R := (.cons .bool .nil), pre := fun x => True, F := fun x => (x.2.1.all (passE x.1), ()) }
def cPassAll_0 (Λ1 : Int → Prop) (p : (List Lin)) (l : (List Tst)) (y0 : Bool) : Prop :=
  Λ1 (0 : Int)
def cPassAll_1 (Λ1 : Int → Prop) (p : (List Lin)) (l : (List Tst)) (y0 : Bool)  (i_1 : Int) : Prop :=
  if (decide (i_1 < (List.length l : Int))) = true then (idx i_1 (List.length l : Int) ∧ (True ∧ (if (!(passE p (List.getD l (Int.toNat i_1) tTs.dflt))) = true then (false = y0 ∧ True) else (inI (i_1 + (1 : Int)) ∧ Λ1 (i_1 + (1 : Int)))))) else (true = y0 ∧ True)
theorem cPassAll_law (h : ∀ (p : (List Lin)) (l : (List Tst)), cPassAll.A.wf (p, l, ()) → ∀ (Λ1 : Int → Prop), (∀ (i_1 : Int), cPassAll_1 Λ1 p l (l.all (passE p)) i_1 → Λ1 i_1) → cPassAll_0 Λ1 p l (l.all (passE p))) : ConOK Go.Proofs.Tryz.prog 110 cPassAll := by
  refine lawL (Γ := [(117, cPass4R)]) (Θ := Th) (n := 19) [([1, 0, 1, 0], ⟨[(0, false), (1, false), (5, true)], []⟩)] ⟨cPass4R_ok, trivial⟩ (by kernel_rfl) th_ok mix_ok Go.Proofs.Tryz.func110 (by kernel_rfl) ?_
  intro x hw hp Λ hC
  have h0 := h x.1 x.2.1 hw (fun i_1 => Λ [1, 0, 1, 0] ([(0, .d false (.sl tL) x.1), (1, .d false (.sl tTs) x.2.1), (5, .d true .int i_1)], [])) (fun i_1 hb => hC [1, 0, 1, 0] ([(0, .d false (.sl tL) x.1), (1, .d false (.sl tTs) x.2.1), (5, .d true .int i_1)], []) (Eq.mpr (by kernel_rfl) hb))
  exact Eq.mpr (by kernel_rfl) h0
theorem cPassAll_ok : ConOK Go.Proofs.Tryz.prog 110 cPassAll := by
  refine cPassAll_law ?_
  intro p l hw Λ1 h1
  unfold cPassAll_0
  have hll : l.length ≤ 140737488355328 := hw.2.1.1
  refine upto (n := l.length) (Q := fun i => (l.take i).all (passE p) = true → Λ1 (i : Int)) ?_ ?_ 0 (Nat.zero_le _) rfl
  · intro ha
    rw [List.take_length] at ha
    apply h1; unfold cPassAll_1
    rw [if_neg (by simp), ha]; exact ⟨rfl, trivial⟩
  · intro i hi ih ha
    apply h1; unfold cPassAll_1
    rw [if_pos (by simpa using hi), Int.toNat_natCast]
    refine ⟨idx_nat hi, trivial, ?_⟩
    cases hv : passE p (l.getD i tTs.dflt)
    · rw [if_pos (by rfl), all_false_at tTs.dflt hi hv]; exact ⟨rfl, trivial⟩
    · rw [if_neg (by simp)]
      exact ⟨inI_succ hi hll, ih (all_take_next tTs.dflt hi ha hv)⟩
abbrev cTurnedR : Con := { A := (.cons (.sl tL) (.cons (.sl tEd) (.cons (.sl tTs) (.cons .bool .nil)))), R := (.cons (.osl .int) .nil), pre := fun x => x.1.length ≤ 1000 ∧ x.2.1.length ≤ 1000 ∧ x.2.2.1.length ≤ 1000 ∧ inX x.1.length x.2.1, F := fun x => (whereL (turnR x.1 (playX x.1 x.2.1) x.2.2.2.1) x.2.2.1, ()) }
def cTurnedR_0 (Λ1 : Int → (List Int) → Prop) (p : (List Lin)) (x : (List Edt)) (l : (List Tst)) (before : Bool) (y0 : (List Int)) : Prop :=
  (p.length ≤ 1000 ∧ x.length ≤ 1000 ∧ inX p.length x) ∧ Λ1 (0 : Int) ([] : List Int)
def cTurnedR_1 (Λ1 : Int → (List Int) → Prop) (p : (List Lin)) (x : (List Edt)) (l : (List Tst)) (before : Bool) (y0 : (List Int))  (i_1 : Int) (out_1 : (List Int)) : Prop :=
  if (decide (i_1 < (List.length l : Int))) = true then (idx i_1 (List.length l : Int) ∧ (True ∧ (if ((passE p (List.getD l (Int.toNat i_1) tTs.dflt)) == before) = true then (idx i_1 (List.length l : Int) ∧ (True ∧ (True ∧ (if (bif true then (!((passE (playX p x) (List.getD l (Int.toNat i_1) tTs.dflt)) == before)) else false) = true then (List.length out_1 + List.length [i_1] ≤ 4294967296 ∧ (inI (i_1 + (1 : Int)) ∧ Λ1 (i_1 + (1 : Int)) (out_1 ++ [i_1]))) else (inI (i_1 + (1 : Int)) ∧ Λ1 (i_1 + (1 : Int)) out_1))))) else (false = false ∧ (inI (i_1 + (1 : Int)) ∧ Λ1 (i_1 + (1 : Int)) out_1))))) else out_1 = y0
theorem cTurnedR_law (h : ∀ (p : (List Lin)) (x : (List Edt)) (l : (List Tst)) (before : Bool), cTurnedR.A.wf (p, x, l, before, ()) → (p.length ≤ 1000 ∧ x.length ≤ 1000 ∧ l.length ≤ 1000 ∧ inX p.length x) → ∀ (Λ1 : Int → (List Int) → Prop), (∀ (i_1 : Int) (out_1 : (List Int)), cTurnedR_1 Λ1 p x l before (whereL (turnR p (playX p x) before) l) i_1 out_1 → Λ1 i_1 out_1) → cTurnedR_0 Λ1 p x l before (whereL (turnR p (playX p x) before) l)) : ConOK Go.Proofs.Tryz.prog 86 cTurnedR := by
  refine lawL (Γ := [(60, cDoneR), (117, cPass4R)]) (Θ := Th) (n := 44) [([1, 1, 1, 0, 1, 0], ⟨[(0, false), (2, false), (3, false), (9, true), (10, true), (11, true)], [(10, true), (14, true)]⟩)] ⟨cDoneR_ok, cPass4R_ok, trivial⟩ (by kernel_rfl) th_ok mix_ok Go.Proofs.Tryz.func86 (by kernel_rfl) ?_
  intro x hw hp Λ hC
  have h0 := h x.1 x.2.1 x.2.2.1 x.2.2.2.1 hw hp (fun i_1 out_1 => Λ [1, 1, 1, 0, 1, 0] ([(0, .d false (.sl tL) x.1), (2, .d false (.sl tTs) x.2.2.1), (3, .d false .bool x.2.2.2.1), (9, .own 14 0), (10, .own 10 0), (11, .d true .int i_1)], [(10, .sl true .int out_1), (14, .sl true tL (playX x.1 x.2.1))])) (fun i_1 out_1 hb => hC [1, 1, 1, 0, 1, 0] ([(0, .d false (.sl tL) x.1), (2, .d false (.sl tTs) x.2.2.1), (3, .d false .bool x.2.2.2.1), (9, .own 14 0), (10, .own 10 0), (11, .d true .int i_1)], [(10, .sl true .int out_1), (14, .sl true tL (playX x.1 x.2.1))]) (Eq.mpr (by kernel_rfl) hb))
  exact Eq.mpr (by kernel_rfl) h0
theorem cTurnedR_ok : ConOK Go.Proofs.Tryz.prog 86 cTurnedR := by
  refine cTurnedR_law ?_
  intro p x l before hw hp Λ1 h1
  unfold cTurnedR_0
  obtain ⟨p1, p2, p3, p4⟩ := hp
  refine ⟨⟨p1, p2, p4⟩, ?_⟩
  refine upto (n := l.length) (Q := fun i => Λ1 (i : Int) (whereTo (turnR p (playX p x) before) l i)) ?_ ?_ 0 (Nat.zero_le _)
  · apply h1; unfold cTurnedR_1
    rw [if_neg (by simp)]; rfl
  · intro i hi ih
    have hwl := whereTo_len (turnR p (playX p x) before) l i
    rw [whereTo] at ih
    have ht : turnR p (playX p x) before (l.getD i tTs.dflt) = ((passE p (l.getD i tTs.dflt) == before) && !(passE (playX p x) (l.getD i tTs.dflt) == before)) := rfl
    rw [ht] at ih
    apply h1; unfold cTurnedR_1
    rw [if_pos (by simpa using hi), Int.toNat_natCast]
    refine ⟨idx_nat hi, trivial, ?_⟩
    cases c1 : (passE p (l.getD i tTs.dflt) == before)
    · rw [c1, if_neg (by simp), List.append_nil] at ih
      rw [if_neg (by simp)]
      exact ⟨rfl, by unfold inI; omega, ih⟩
    · rw [c1] at ih
      rw [if_pos (by rfl)]
      refine ⟨idx_nat hi, trivial, trivial, ?_⟩
      cases c2 : (passE (playX p x) (l.getD i tTs.dflt) == before)
      · rw [c2, if_pos (by rfl)] at ih
        rw [if_pos (by rfl)]
        exact ⟨by simp only [List.length_cons, List.length_nil]; omega, by unfold inI; omega, ih⟩
      · rw [c2, if_neg (by simp), List.append_nil] at ih
        rw [if_neg (by simp)]
        exact ⟨by unfold inI; omega, ih⟩
abbrev cFixesR : Con := { A := (.cons (.sl tL) (.cons (.sl tEd) (.cons (.sl tTs) .nil))), R := (.cons (.osl .int) (.cons .int .nil)), pre := fun x => True, F := fun x => ((if errXT x.1 x.2.1 x.2.2.1 = 0 then turnedL x.1 (playX x.1 x.2.1) x.2.2.1 else []), errXT x.1 x.2.1 x.2.2.1, ()) }
def cFixesR_0  (p : (List Lin)) (x : (List Edt)) (l : (List Tst)) (y0 : (List Int)) (y1 : Int) : Prop :=
  True ∧ (if ((errXT p x l) != (0 : Int)) = true then ((errXT p x l) = y1 ∧ ([] : List Int) = y0) else ((p.length ≤ 1000 ∧ x.length ≤ 1000 ∧ l.length ≤ 1000 ∧ inX p.length x) ∧ ((0 : Int) = y1 ∧ (whereL (turnR p (playX p x) false) l) = y0)))
theorem cFixesR_law (h : ∀ (p : (List Lin)) (x : (List Edt)) (l : (List Tst)), cFixesR.A.wf (p, x, l, ()) → cFixesR_0  p x l (if errXT p x l = 0 then turnedL p (playX p x) l else []) (errXT p x l)) : ConOK Go.Proofs.Tryz.prog 47 cFixesR := by
  refine lawL (Γ := [(65, cTestedR4), (86, cTurnedR)]) (Θ := Th) (n := 20) [] ⟨cTestedR4_ok, cTurnedR_ok, trivial⟩ (by kernel_rfl) th_ok mix_ok Go.Proofs.Tryz.func47 (by kernel_rfl) ?_
  intro x hw hp Λ hC
  have h0 := h x.1 x.2.1 x.2.2.1 hw  
  exact Eq.mpr (by kernel_rfl) h0
theorem cFixesR_ok : ConOK Go.Proofs.Tryz.prog 47 cFixesR := by
  refine cFixesR_law ?_
  intro p x l hw
  unfold cFixesR_0
  refine ⟨trivial, ?_⟩
  by_cases h : errXT p x l = 0
  · obtain ⟨g1, g2, g3, g4⟩ := errXT_ok h
    have h8 := (validP_ok g1).1
    have h4 := (validX_ok g2).1
    have hT := (validT_ok g3).1
    rw [if_neg (by simp [h]), if_pos h, turnR_fix g1 (errX_play (errXT_X h)) g3]
    exact ⟨⟨by omega, by omega, by omega, g4⟩, h.symm, rfl⟩
  · rw [if_pos (by simpa using h), if_neg h]
    exact ⟨rfl, rfl⟩
abbrev cBreaksR : Con := { A := (.cons (.sl tL) (.cons (.sl tEd) (.cons (.sl tTs) .nil))), R := (.cons (.osl .int) (.cons .int .nil)), pre := fun x => True, F := fun x => ((if errXT x.1 x.2.1 x.2.2.1 = 0 then turnedL (playX x.1 x.2.1) x.1 x.2.2.1 else []), errXT x.1 x.2.1 x.2.2.1, ()) }
def cBreaksR_0  (p : (List Lin)) (x : (List Edt)) (l : (List Tst)) (y0 : (List Int)) (y1 : Int) : Prop :=
  True ∧ (if ((errXT p x l) != (0 : Int)) = true then ((errXT p x l) = y1 ∧ ([] : List Int) = y0) else ((p.length ≤ 1000 ∧ x.length ≤ 1000 ∧ l.length ≤ 1000 ∧ inX p.length x) ∧ ((0 : Int) = y1 ∧ (whereL (turnR p (playX p x) true) l) = y0)))
theorem cBreaksR_law (h : ∀ (p : (List Lin)) (x : (List Edt)) (l : (List Tst)), cBreaksR.A.wf (p, x, l, ()) → cBreaksR_0  p x l (if errXT p x l = 0 then turnedL (playX p x) p l else []) (errXT p x l)) : ConOK Go.Proofs.Tryz.prog 49 cBreaksR := by
  refine lawL (Γ := [(65, cTestedR4), (86, cTurnedR)]) (Θ := Th) (n := 20) [] ⟨cTestedR4_ok, cTurnedR_ok, trivial⟩ (by kernel_rfl) th_ok mix_ok Go.Proofs.Tryz.func49 (by kernel_rfl) ?_
  intro x hw hp Λ hC
  have h0 := h x.1 x.2.1 x.2.2.1 hw  
  exact Eq.mpr (by kernel_rfl) h0
theorem cBreaksR_ok : ConOK Go.Proofs.Tryz.prog 49 cBreaksR := by
  refine cBreaksR_law ?_
  intro p x l hw
  unfold cBreaksR_0
  refine ⟨trivial, ?_⟩
  by_cases h : errXT p x l = 0
  · obtain ⟨g1, g2, g3, g4⟩ := errXT_ok h
    have h8 := (validP_ok g1).1
    have h4 := (validX_ok g2).1
    have hT := (validT_ok g3).1
    rw [if_neg (by simp [h]), if_pos h, turnR_brk g1 (errX_play (errXT_X h)) g3]
    exact ⟨⟨by omega, by omega, by omega, g4⟩, h.symm, rfl⟩
  · rw [if_pos (by simpa using h), if_neg h]
    exact ⟨rfl, rfl⟩
abbrev cGoodR : Con := { A := (.cons (.sl tL) (.cons (.sl tEd) (.cons (.sl tTs) .nil))), R := (.cons .bool .nil), pre := fun x => errXT x.1 x.2.1 x.2.2.1 = 0, F := fun x => (goodX x.1 x.2.1 x.2.2.1, ()) }
def cGoodR_0  (p : (List Lin)) (x : (List Edt)) (l : (List Tst)) (y0 : Bool) : Prop :=
  (p.length ≤ 1000 ∧ x.length ≤ 1000 ∧ inX p.length x) ∧ (True ∧ ((l.all (passE (playX p x))) = y0 ∧ True))
theorem cGoodR_law (h : ∀ (p : (List Lin)) (x : (List Edt)) (l : (List Tst)), cGoodR.A.wf (p, x, l, ()) → (errXT p x l = 0) → cGoodR_0  p x l (goodX p x l)) : ConOK Go.Proofs.Tryz.prog 67 cGoodR := by
  refine lawL (Γ := [(60, cDoneR), (110, cPassAll)]) (Θ := Th) (n := 12) [] ⟨cDoneR_ok, cPassAll_ok, trivial⟩ (by kernel_rfl) th_ok mix_ok Go.Proofs.Tryz.func67 (by kernel_rfl) ?_
  intro x hw hp Λ hC
  have h0 := h x.1 x.2.1 x.2.2.1 hw hp  
  exact Eq.mpr (by kernel_rfl) h0
theorem cGoodR_ok : ConOK Go.Proofs.Tryz.prog 67 cGoodR := by
  refine cGoodR_law ?_
  intro p x l hw hp
  unfold cGoodR_0
  obtain ⟨g1, g2, g3, g4⟩ := errXT_ok hp
  have h8 := (validP_ok g1).1
  have h4 := (validX_ok g2).1
  exact ⟨⟨by omega, by omega, g4⟩, trivial, all_pass (errX_play (errXT_X hp)) g3, trivial⟩
abbrev cIsGoodR : Con := { A := (.cons (.sl tL) (.cons (.sl tEd) (.cons (.sl tTs) .nil))), R := (.cons .bool (.cons .int .nil)), pre := fun x => True, F := fun x => ((errXT x.1 x.2.1 x.2.2.1 == 0 && goodX x.1 x.2.1 x.2.2.1), errXT x.1 x.2.1 x.2.2.1, ()) }
def cIsGoodR_0  (p : (List Lin)) (x : (List Edt)) (l : (List Tst)) (y0 : Bool) (y1 : Int) : Prop :=
  True ∧ (if ((errXT p x l) != (0 : Int)) = true then (false = y0 ∧ (errXT p x l) = y1 ∧ True) else (errXT p x l = 0 ∧ ((goodX p x l) = y0 ∧ (0 : Int) = y1 ∧ True)))
theorem cIsGoodR_law (h : ∀ (p : (List Lin)) (x : (List Edt)) (l : (List Tst)), cIsGoodR.A.wf (p, x, l, ()) → cIsGoodR_0  p x l (errXT p x l == 0 && goodX p x l) (errXT p x l)) : ConOK Go.Proofs.Tryz.prog 52 cIsGoodR := by
  refine lawL (Γ := [(67, cGoodR), (65, cTestedR4)]) (Θ := Th) (n := 20) [] ⟨cGoodR_ok, cTestedR4_ok, trivial⟩ (by kernel_rfl) th_ok mix_ok Go.Proofs.Tryz.func52 (by kernel_rfl) ?_
  intro x hw hp Λ hC
  have h0 := h x.1 x.2.1 x.2.2.1 hw  
  exact Eq.mpr (by kernel_rfl) h0
theorem cIsGoodR_ok : ConOK Go.Proofs.Tryz.prog 52 cIsGoodR := by
  refine cIsGoodR_law ?_
  intro p x l hw
  unfold cIsGoodR_0
  refine ⟨trivial, ?_⟩
  by_cases h : errXT p x l = 0
  · rw [if_neg (by simp [h])]
    exact ⟨h, by rw [h]; rfl, h.symm, trivial⟩
  · rw [if_pos (by simpa using h)]
    refine ⟨?_, rfl, trivial⟩
    rw [beq_eq_false_iff_ne.2 h]; rfl
abbrev cBeforeR : Con := { A := (.cons (.sl tEd) (.cons (.sl tEd) .nil)), R := (.cons .bool .nil), pre := fun x => x.1.length ≤ 1000 ∧ x.1.length = x.2.1.length, F := fun x => (decide (cmpL (x.1.map (·.1)) (x.2.1.map (·.1)) < 0), ()) }
def cBeforeR_0 (Λ1 : Int → Prop) (x : (List Edt)) (y_ : (List Edt)) (y0 : Bool) : Prop :=
  Λ1 (0 : Int)
def cBeforeR_1 (Λ1 : Int → Prop) (x : (List Edt)) (y_ : (List Edt)) (y0 : Bool)  (i_1 : Int) : Prop :=
  if (decide (i_1 < (List.length x : Int))) = true then (idx i_1 (List.length x : Int) ∧ (idx i_1 (List.length y_ : Int) ∧ (if ((List.getD x (Int.toNat i_1) tEd.dflt).1 != (List.getD y_ (Int.toNat i_1) tEd.dflt).1) = true then (idx i_1 (List.length x : Int) ∧ (idx i_1 (List.length y_ : Int) ∧ ((decide ((List.getD x (Int.toNat i_1) tEd.dflt).1 < (List.getD y_ (Int.toNat i_1) tEd.dflt).1)) = y0 ∧ True))) else (inI (i_1 + (1 : Int)) ∧ Λ1 (i_1 + (1 : Int)))))) else (false = y0 ∧ True)
theorem cBeforeR_law (h : ∀ (x : (List Edt)) (y_ : (List Edt)), cBeforeR.A.wf (x, y_, ()) → (x.length ≤ 1000 ∧ x.length = y_.length) → ∀ (Λ1 : Int → Prop), (∀ (i_1 : Int), cBeforeR_1 Λ1 x y_ (decide (cmpL (x.map (·.1)) (y_.map (·.1)) < 0)) i_1 → Λ1 i_1) → cBeforeR_0 Λ1 x y_ (decide (cmpL (x.map (·.1)) (y_.map (·.1)) < 0))) : ConOK Go.Proofs.Tryz.prog 68 cBeforeR := by
  refine lawL (Γ := []) (Θ := Th) (n := 34) [([1, 0, 1, 0], ⟨[(0, false), (1, false), (5, true)], []⟩)] trivial (by kernel_rfl) th_ok mix_ok Go.Proofs.Tryz.func68 (by kernel_rfl) ?_
  intro x hw hp Λ hC
  have h0 := h x.1 x.2.1 hw hp (fun i_1 => Λ [1, 0, 1, 0] ([(0, .d false (.sl tEd) x.1), (1, .d false (.sl tEd) x.2.1), (5, .d true .int i_1)], [])) (fun i_1 hb => hC [1, 0, 1, 0] ([(0, .d false (.sl tEd) x.1), (1, .d false (.sl tEd) x.2.1), (5, .d true .int i_1)], []) (Eq.mpr (by kernel_rfl) hb))
  exact Eq.mpr (by kernel_rfl) h0
theorem cBeforeR_ok : ConOK Go.Proofs.Tryz.prog 68 cBeforeR := by
  refine cBeforeR_law ?_
  intro x y_ hw hp Λ1 h1
  unfold cBeforeR_0
  obtain ⟨p1, p2⟩ := hp
  have hl1 : (x.map (·.1)).length = x.length := by simp
  have hl2 : (y_.map (·.1)).length = y_.length := by simp
  refine upto (n := x.length) (Q := fun i => (x.map (·.1)).take i = (y_.map (·.1)).take i → Λ1 (i : Int)) ?_ ?_ 0 (Nat.zero_le _) rfl
  · intro ha
    apply h1; unfold cBeforeR_1
    rw [← hl1] at ha
    rw [if_neg (by simp), cmpL_end ha (by omega), if_neg (by omega)]
    exact ⟨rfl, trivial⟩
  · intro i hi ih ha
    apply h1; unfold cBeforeR_1
    rw [if_pos (by simpa using hi), Int.toNat_natCast]
    refine ⟨idx_nat hi, idx_nat (by omega), ?_⟩
    have f1 := fst_at hi
    have f2 := fst_at (x := y_) (i := i) (by omega)
    by_cases hv : (x.getD i tEd.dflt).1 = (y_.getD i tEd.dflt).1
    · rw [if_neg (by rw [hv]; simp)]
      refine ⟨by unfold inI; omega, ih ?_⟩
      rw [take_snoc 0 (by omega), take_snoc 0 (by omega), ha, f1, f2, hv]
    · rw [if_pos (by simpa using hv)]
      refine ⟨idx_nat hi, idx_nat (by omega), ?_, trivial⟩
      rw [cmpL_at ha (by omega) (by omega) (by rw [f1, f2]; exact hv), f1, f2, Bool.eq_iff_iff, decide_eq_true_eq, decide_eq_true_eq]
      unfold cmpI
      split
      · omega
      · split <;> omega
abbrev cSameL4 : Con := { A := (.cons (.sl tL) (.cons (.sl tL) .nil)), R := (.cons .bool .nil), pre := fun x => x.1.length ≤ 1000000, F := fun x => (decide (x.1 = x.2.1), ()) }
def cSameL4_0 (Λ1 : Int → Prop) (p : (List Lin)) (q : (List Lin)) (y0 : Bool) : Prop :=
  if ((List.length p : Int) != (List.length q : Int)) = true then (false = y0 ∧ True) else Λ1 (0 : Int)
def cSameL4_1 (Λ1 : Int → Prop) (p : (List Lin)) (q : (List Lin)) (y0 : Bool)  (i_1 : Int) : Prop :=
  if (decide (i_1 < (List.length p : Int))) = true then (idx i_1 (List.length p : Int) ∧ (idx i_1 (List.length q : Int) ∧ (if (!(T.eqB tL (List.getD p (Int.toNat i_1) tL.dflt) (List.getD q (Int.toNat i_1) tL.dflt))) = true then (false = y0 ∧ True) else (inI (i_1 + (1 : Int)) ∧ Λ1 (i_1 + (1 : Int)))))) else (true = y0 ∧ True)
theorem cSameL4_law (h : ∀ (p : (List Lin)) (q : (List Lin)), cSameL4.A.wf (p, q, ()) → (p.length ≤ 1000000) → ∀ (Λ1 : Int → Prop), (∀ (i_1 : Int), cSameL4_1 Λ1 p q (decide (p = q)) i_1 → Λ1 i_1) → cSameL4_0 Λ1 p q (decide (p = q))) : ConOK Go.Proofs.Tryz.prog 21 cSameL4 := by
  refine lawL (Γ := []) (Θ := Th) (n := 26) [([1, 1, 0, 1, 0], ⟨[(0, false), (1, false), (5, true)], []⟩)] trivial (by kernel_rfl) th_ok mix_ok Go.Proofs.Tryz.func21 (by kernel_rfl) ?_
  intro x hw hp Λ hC
  have h0 := h x.1 x.2.1 hw hp (fun i_1 => Λ [1, 1, 0, 1, 0] ([(0, .d false (.sl tL) x.1), (1, .d false (.sl tL) x.2.1), (5, .d true .int i_1)], [])) (fun i_1 hb => hC [1, 1, 0, 1, 0] ([(0, .d false (.sl tL) x.1), (1, .d false (.sl tL) x.2.1), (5, .d true .int i_1)], []) (Eq.mpr (by kernel_rfl) hb))
  exact Eq.mpr (by kernel_rfl) h0
theorem cSameL4_ok : ConOK Go.Proofs.Tryz.prog 21 cSameL4 := by
  refine cSameL4_law ?_
  intro p q hw hp Λ1 h1
  unfold cSameL4_0
  by_cases hl : p.length = q.length
  · rw [if_neg (by simp [hl])]
    refine upto (n := p.length) (Q := fun i => p.take i = q.take i → Λ1 i) ?_ ?_ 0 (Nat.zero_le _) rfl
    · intro ha
      rw [List.take_length, List.take_of_length_le (by omega)] at ha
      apply h1; unfold cSameL4_1; rw [if_neg (by simp)]
      exact ⟨by simp [ha], trivial⟩
    · intro i hi ih ha
      apply h1; unfold cSameL4_1; rw [if_pos (by simpa using hi), Int.toNat_natCast]
      refine ⟨idx_nat hi, idx_nat (by omega), ?_⟩
      have heq := eqB_iff (t := tL) (x := List.getD p i tL.dflt) (y := List.getD q i tL.dflt) rfl
      by_cases hv : List.getD p i tL.dflt = List.getD q i tL.dflt
      · rw [if_neg (by rw [heq.2 hv]; simp)]
        exact ⟨inI_succ hi (by omega), ih (take_eq_next tL.dflt hi hl ha hv)⟩
      · rw [if_pos (by
          cases hq : T.eqB tL (List.getD p i tL.dflt) (List.getD q i tL.dflt)
          · rfl
          · exact absurd (heq.1 hq) hv)]
        exact ⟨by simp [ne_at tL.dflt hv], trivial⟩
  · rw [if_pos (by simp; omega)]
    exact ⟨by simp; exact fun e => hl (by rw [e]), trivial⟩
abbrev cSameR : Con := { A := (.cons (.sl tEd) (.cons (.sl tEd) .nil)), R := (.cons .bool .nil), pre := fun x => x.1.length ≤ 1000000, F := fun x => (decide (x.1 = x.2.1), ()) }
def cSameR_0 (Λ1 : Int → Prop) (x : (List Edt)) (y_ : (List Edt)) (y0 : Bool) : Prop :=
  if ((List.length x : Int) != (List.length y_ : Int)) = true then (false = y0 ∧ True) else Λ1 (0 : Int)
def cSameR_1 (Λ1 : Int → Prop) (x : (List Edt)) (y_ : (List Edt)) (y0 : Bool)  (i_1 : Int) : Prop :=
  if (decide (i_1 < (List.length x : Int))) = true then (idx i_1 (List.length x : Int) ∧ (idx i_1 (List.length y_ : Int) ∧ (if (!(T.eqB tEd (List.getD x (Int.toNat i_1) tEd.dflt) (List.getD y_ (Int.toNat i_1) tEd.dflt))) = true then (false = y0 ∧ True) else (inI (i_1 + (1 : Int)) ∧ Λ1 (i_1 + (1 : Int)))))) else (true = y0 ∧ True)
theorem cSameR_law (h : ∀ (x : (List Edt)) (y_ : (List Edt)), cSameR.A.wf (x, y_, ()) → (x.length ≤ 1000000) → ∀ (Λ1 : Int → Prop), (∀ (i_1 : Int), cSameR_1 Λ1 x y_ (decide (x = y_)) i_1 → Λ1 i_1) → cSameR_0 Λ1 x y_ (decide (x = y_))) : ConOK Go.Proofs.Tryz.prog 24 cSameR := by
  refine lawL (Γ := []) (Θ := Th) (n := 26) [([1, 1, 0, 1, 0], ⟨[(0, false), (1, false), (5, true)], []⟩)] trivial (by kernel_rfl) th_ok mix_ok Go.Proofs.Tryz.func24 (by kernel_rfl) ?_
  intro x hw hp Λ hC
  have h0 := h x.1 x.2.1 hw hp (fun i_1 => Λ [1, 1, 0, 1, 0] ([(0, .d false (.sl tEd) x.1), (1, .d false (.sl tEd) x.2.1), (5, .d true .int i_1)], [])) (fun i_1 hb => hC [1, 1, 0, 1, 0] ([(0, .d false (.sl tEd) x.1), (1, .d false (.sl tEd) x.2.1), (5, .d true .int i_1)], []) (Eq.mpr (by kernel_rfl) hb))
  exact Eq.mpr (by kernel_rfl) h0
theorem cSameR_ok : ConOK Go.Proofs.Tryz.prog 24 cSameR := by
  refine cSameR_law ?_
  intro x y_ hw hp Λ1 h1
  unfold cSameR_0
  by_cases hl : x.length = y_.length
  · rw [if_neg (by simp [hl])]
    refine upto (n := x.length) (Q := fun i => x.take i = y_.take i → Λ1 i) ?_ ?_ 0 (Nat.zero_le _) rfl
    · intro ha
      rw [List.take_length, List.take_of_length_le (by omega)] at ha
      apply h1; unfold cSameR_1; rw [if_neg (by simp)]
      exact ⟨by simp [ha], trivial⟩
    · intro i hi ih ha
      apply h1; unfold cSameR_1; rw [if_pos (by simpa using hi), Int.toNat_natCast]
      refine ⟨idx_nat hi, idx_nat (by omega), ?_⟩
      have heq := eqB_iff (t := tEd) (x := List.getD x i tEd.dflt) (y := List.getD y_ i tEd.dflt) rfl
      by_cases hv : List.getD x i tEd.dflt = List.getD y_ i tEd.dflt
      · rw [if_neg (by rw [heq.2 hv]; simp)]
        exact ⟨inI_succ hi (by omega), ih (take_eq_next tEd.dflt hi hl ha hv)⟩
      · rw [if_pos (by
          cases hq : T.eqB tEd (List.getD x i tEd.dflt) (List.getD y_ i tEd.dflt)
          · rfl
          · exact absurd (heq.1 hq) hv)]
        exact ⟨by simp [ne_at tEd.dflt hv], trivial⟩
  · rw [if_pos (by simp; omega)]
    exact ⟨by simp; exact fun e => hl (by rw [e]), trivial⟩
abbrev cSameInts4 : Con := { A := (.cons (.sl .int) (.cons (.sl .int) .nil)), R := (.cons .bool .nil), pre := fun x => x.1.length ≤ 1000000, F := fun x => (decide (x.1 = x.2.1), ()) }
def cSameInts4_0 (Λ1 : Int → Prop) (a : (List Int)) (b : (List Int)) (y0 : Bool) : Prop :=
  if ((List.length a : Int) != (List.length b : Int)) = true then (false = y0 ∧ True) else Λ1 (0 : Int)
def cSameInts4_1 (Λ1 : Int → Prop) (a : (List Int)) (b : (List Int)) (y0 : Bool)  (i_1 : Int) : Prop :=
  if (decide (i_1 < (List.length a : Int))) = true then (idx i_1 (List.length a : Int) ∧ (idx i_1 (List.length b : Int) ∧ (if ((List.getD a (Int.toNat i_1) 0) != (List.getD b (Int.toNat i_1) 0)) = true then (false = y0 ∧ True) else (inI (i_1 + (1 : Int)) ∧ Λ1 (i_1 + (1 : Int)))))) else (true = y0 ∧ True)
theorem cSameInts4_law (h : ∀ (a : (List Int)) (b : (List Int)), cSameInts4.A.wf (a, b, ()) → (a.length ≤ 1000000) → ∀ (Λ1 : Int → Prop), (∀ (i_1 : Int), cSameInts4_1 Λ1 a b (decide (a = b)) i_1 → Λ1 i_1) → cSameInts4_0 Λ1 a b (decide (a = b))) : ConOK Go.Proofs.Tryz.prog 39 cSameInts4 := by
  refine lawL (Γ := []) (Θ := Th) (n := 26) [([1, 1, 0, 1, 0], ⟨[(0, false), (1, false), (5, true)], []⟩)] trivial (by kernel_rfl) th_ok mix_ok Go.Proofs.Tryz.func39 (by kernel_rfl) ?_
  intro x hw hp Λ hC
  have h0 := h x.1 x.2.1 hw hp (fun i_1 => Λ [1, 1, 0, 1, 0] ([(0, .d false (.sl .int) x.1), (1, .d false (.sl .int) x.2.1), (5, .d true .int i_1)], [])) (fun i_1 hb => hC [1, 1, 0, 1, 0] ([(0, .d false (.sl .int) x.1), (1, .d false (.sl .int) x.2.1), (5, .d true .int i_1)], []) (Eq.mpr (by kernel_rfl) hb))
  exact Eq.mpr (by kernel_rfl) h0
theorem cSameInts4_ok : ConOK Go.Proofs.Tryz.prog 39 cSameInts4 := by
  refine cSameInts4_law ?_
  intro a b hw hp Λ1 h1
  unfold cSameInts4_0
  by_cases hl : a.length = b.length
  · rw [if_neg (by simp [hl])]
    refine upto (n := a.length) (Q := fun i => a.take i = b.take i → Λ1 i) ?_ ?_ 0 (Nat.zero_le _) rfl
    · intro ha
      rw [List.take_length, List.take_of_length_le (by omega)] at ha
      apply h1; unfold cSameInts4_1; rw [if_neg (by simp)]
      exact ⟨by simp [ha], trivial⟩
    · intro i hi ih ha
      apply h1; unfold cSameInts4_1; rw [if_pos (by simpa using hi), Int.toNat_natCast]
      refine ⟨idx_nat hi, idx_nat (by omega), ?_⟩
      by_cases hv : List.getD a i 0 = List.getD b i 0
      · rw [if_neg (by rw [hv]; simp)]
        exact ⟨inI_succ hi (by omega), ih (take_eq_next 0 hi hl ha hv)⟩
      · rw [if_pos (by simpa using hv)]
        exact ⟨by simp [ne_at 0 hv], trivial⟩
  · rw [if_pos (by simp; omega)]
    exact ⟨by simp; exact fun e => hl (by rw [e]), trivial⟩
end Go.Tk
/- Layer 4: parts, the smallest, minimal patches. -/
set_option linter.unusedSimpArgs false
set_option linter.unusedVariables false
set_option linter.unnecessarySimpa false
namespace Go.Tk
open Go Go.RowKit
abbrev cIsMin : Con := { A := (.cons (.sl tL) (.cons (.sl tEd) (.cons (.sl tTs) .nil))), R := (.cons .bool (.cons .int .nil)), pre := fun x => True, F := fun x => ((errXT x.1 x.2.1 x.2.2.1 == 0 && minimB x.1 x.2.1 x.2.2.1), errXT x.1 x.2.1 x.2.2.1, ()) }
def cIsMin_0  (p : (List Lin)) (x : (List Edt)) (l : (List Tst)) (y0 : Bool) (y1 : Int) : Prop :=
  True ∧ (if ((errXT p x l) != (0 : Int)) = true then (false = y0 ∧ (errXT p x l) = y1 ∧ True) else (errXT p x l = 0 ∧ (if (smallB p x l) = true then (True ∧ ((bif true then ((List.length (smallX p x l) : Int) == (List.length x : Int)) else false) = y0 ∧ (0 : Int) = y1 ∧ True)) else (false = false ∧ (false = y0 ∧ (0 : Int) = y1 ∧ True)))))
theorem cIsMin_law (h : ∀ (p : (List Lin)) (x : (List Edt)) (l : (List Tst)), cIsMin.A.wf (p, x, l, ()) → cIsMin_0  p x l (errXT p x l == 0 && minimB p x l) (errXT p x l)) : ConOK Go.Proofs.Tryz.prog 28 cIsMin := by
  refine lawL (Γ := [(57, cChk), (64, cSmallest0)]) (Θ := Th) (n := 33) [] ⟨cChk_ok, cSmallest0_ok, trivial⟩ (by kernel_rfl) th_ok mix_ok Go.Proofs.Tryz.func28 (by kernel_rfl) ?_
  intro x hw hp Λ hC
  have h0 := h x.1 x.2.1 x.2.2.1 hw  
  exact Eq.mpr (by kernel_rfl) h0
theorem cIsMin_ok : ConOK Go.Proofs.Tryz.prog 28 cIsMin := by
  refine cIsMin_law ?_
  intro p x l hw
  unfold cIsMin_0
  refine ⟨trivial, ?_⟩
  by_cases h : errXT p x l = 0
  · rw [if_neg (by simp [h])]
    refine ⟨h, ?_⟩
    unfold minimB
    rw [h]
    cases hb : smallB p x l
    · rw [if_neg (by simp)]
      exact ⟨rfl, rfl, rfl, trivial⟩
    · rw [if_pos (by rfl)]
      refine ⟨trivial, ?_, rfl, trivial⟩
      rw [beq_dec]
      simp only [cond_true, Bool.true_and, beq_self_eq_true, Int.natCast_inj]
  · rw [if_pos (by simpa using h)]
    exact ⟨by rw [beq_eq_false_iff_ne.2 h]; rfl, rfl, trivial⟩
abbrev cSmallest : Con := { A := (.cons (.sl tL) (.cons (.sl tEd) (.cons (.sl tTs) .nil))), R := (.cons (.sl tEd) (.cons .bool (.cons .int .nil))), pre := fun x => True, F := fun x => ((if errXT x.1 x.2.1 x.2.2.1 = 0 then smallX x.1 x.2.1 x.2.2.1 else []), (errXT x.1 x.2.1 x.2.2.1 == 0 && smallB x.1 x.2.1 x.2.2.1), errXT x.1 x.2.1 x.2.2.1, ()), al := true }
def cSmallest_0  (p : (List Lin)) (x : (List Edt)) (l : (List Tst)) (y0 : (List Edt)) (y1 : Bool) (y2 : Int) : Prop :=
  True ∧ (if ((errXT p x l) != (0 : Int)) = true then (([] : List Edt) = y0 ∧ false = y1 ∧ (errXT p x l) = y2 ∧ True) else (errXT p x l = 0 ∧ ((smallX p x l) = y0 ∧ (smallB p x l) = y1 ∧ (0 : Int) = y2 ∧ True)))
theorem cSmallest_law (h : ∀ (p : (List Lin)) (x : (List Edt)) (l : (List Tst)), cSmallest.A.wf (p, x, l, ()) → cSmallest_0  p x l (if errXT p x l = 0 then smallX p x l else []) (errXT p x l == 0 && smallB p x l) (errXT p x l)) : ConOK Go.Proofs.Tryz.prog 26 cSmallest := by
  refine lawL (Γ := [(57, cChk), (64, cSmallest0)]) (Θ := Th) (n := 28) [] ⟨cChk_ok, cSmallest0_ok, trivial⟩ (by kernel_rfl) th_ok mix_ok Go.Proofs.Tryz.func26 (by kernel_rfl) ?_
  intro x hw hp Λ hC
  have h0 := h x.1 x.2.1 x.2.2.1 hw  
  exact Eq.mpr (by kernel_rfl) h0
theorem cSmallest_ok : ConOK Go.Proofs.Tryz.prog 26 cSmallest := by
  refine cSmallest_law ?_
  intro p x l hw
  unfold cSmallest_0
  refine ⟨trivial, ?_⟩
  by_cases h : errXT p x l = 0
  · rw [if_neg (by simp [h]), if_pos h]
    exact ⟨h, rfl, by rw [h]; rfl, h.symm, trivial⟩
  · rw [if_pos (by simpa using h), if_neg h]
    exact ⟨rfl, by rw [beq_eq_false_iff_ne.2 h]; rfl, rfl, trivial⟩
abbrev cPartsR : Con := { A := (.cons (.sl tEd) .nil), R := (.cons (.osl (.sl tEd)) .nil), pre := fun x => x.1.length ≤ 4, F := fun x => (partsL x.1, ()) }
def cPartsR_0 (Λ1 : Int → (List (List Edt)) → Prop) (Λ2 : Int → (List (List Edt)) → Int → (List (List Edt)) → Prop) (x : (List Edt)) (y0 : (List (List Edt))) : Prop :=
  Λ1 (0 : Int) ([([] : List Edt)])
def cPartsR_1 (Λ1 : Int → (List (List Edt)) → Prop) (Λ2 : Int → (List (List Edt)) → Int → (List (List Edt)) → Prop) (x : (List Edt)) (y0 : (List (List Edt)))  (i_1 : Int) (out_1 : (List (List Edt))) : Prop :=
  if (decide (i_1 < (List.length x : Int))) = true then Λ2 i_1 out_1 (0 : Int) out_1 else out_1 = y0
def cPartsR_2 (Λ1 : Int → (List (List Edt)) → Prop) (Λ2 : Int → (List (List Edt)) → Int → (List (List Edt)) → Prop) (x : (List Edt)) (y0 : (List (List Edt))) (i_1 : Int) (out_1 : (List (List Edt))) (k_2 : Int) (out_2 : (List (List Edt))) : Prop :=
  if (decide (k_2 < (List.length out_1 : Int))) = true then (idx k_2 (List.length out_2 : Int) ∧ (List.length ([] : List Edt) + List.length (List.getD out_2 (Int.toNat k_2) ([] : List Edt)) ≤ 4294967296 ∧ (idx i_1 (List.length x : Int) ∧ (List.length (([] : List Edt) ++ (List.getD out_2 (Int.toNat k_2) ([] : List Edt))) + List.length [(List.getD x (Int.toNat i_1) tEd.dflt)] ≤ 4294967296 ∧ (List.length out_2 + List.length ([((([] : List Edt) ++ (List.getD out_2 (Int.toNat k_2) ([] : List Edt))) ++ [(List.getD x (Int.toNat i_1) tEd.dflt)])]) ≤ 4294967296 ∧ (inI (k_2 + (1 : Int)) ∧ Λ2 i_1 out_1 (k_2 + (1 : Int)) (out_2 ++ [((([] : List Edt) ++ (List.getD out_2 (Int.toNat k_2) ([] : List Edt))) ++ [(List.getD x (Int.toNat i_1) tEd.dflt)])]))))))) else (inI (i_1 + (1 : Int)) ∧ Λ1 (i_1 + (1 : Int)) out_2)
theorem cPartsR_law (h : ∀ (x : (List Edt)), cPartsR.A.wf (x, ()) → (x.length ≤ 4) → ∀ (Λ1 : Int → (List (List Edt)) → Prop) (Λ2 : Int → (List (List Edt)) → Int → (List (List Edt)) → Prop), (∀ (i_1 : Int) (out_1 : (List (List Edt))), cPartsR_1 Λ1 Λ2 x (partsL x) i_1 out_1 → Λ1 i_1 out_1) → (∀ (i_1 : Int) (out_1 : (List (List Edt))) (k_2 : Int) (out_2 : (List (List Edt))), cPartsR_2 Λ1 Λ2 x (partsL x) i_1 out_1 k_2 out_2 → Λ2 i_1 out_1 k_2 out_2) → cPartsR_0 Λ1 Λ2 x (partsL x)) : ConOK Go.Proofs.Tryz.prog 66 cPartsR := by
  refine lawL (Γ := []) (Θ := Th) (n := 37) [([1, 1, 0, 1, 0], ⟨[(0, false), (3, true), (4, true)], [(7, true)]⟩), ([1, 1, 0, 1, 0, 0, 1, 0, 0, 1, 1, 0], ⟨[(0, false), (3, true), (4, true), (5, true), (6, true)], [(7, true)]⟩)] trivial (by kernel_rfl) th_ok mix_ok Go.Proofs.Tryz.func66 (by kernel_rfl) ?_
  intro x hw hp Λ hC
  have h0 := h x.1 hw hp (fun i_1 out_1 => Λ [1, 1, 0, 1, 0] ([(0, .d false (.sl tEd) x.1), (3, .own 7 0), (4, .d true .int i_1)], [(7, .sl true (.sl tEd) out_1)])) (fun i_1 out_1 k_2 out_2 => Λ [1, 1, 0, 1, 0, 0, 1, 0, 0, 1, 1, 0] ([(0, .d false (.sl tEd) x.1), (3, .own 7 0), (4, .d true .int i_1), (5, .d true .int (List.length out_1 : Int)), (6, .d true .int k_2)], [(7, .sl true (.sl tEd) out_2)])) (fun i_1 out_1 hb => hC [1, 1, 0, 1, 0] ([(0, .d false (.sl tEd) x.1), (3, .own 7 0), (4, .d true .int i_1)], [(7, .sl true (.sl tEd) out_1)]) (Eq.mpr (by kernel_rfl) hb)) (fun i_1 out_1 k_2 out_2 hb => hC [1, 1, 0, 1, 0, 0, 1, 0, 0, 1, 1, 0] ([(0, .d false (.sl tEd) x.1), (3, .own 7 0), (4, .d true .int i_1), (5, .d true .int (List.length out_1 : Int)), (6, .d true .int k_2)], [(7, .sl true (.sl tEd) out_2)]) (Eq.mpr (by kernel_rfl) hb))
  exact Eq.mpr (by kernel_rfl) h0
theorem cPartsR_ok : ConOK Go.Proofs.Tryz.prog 66 cPartsR := by
  refine cPartsR_law ?_
  intro x hw hp Λ1 Λ2 h1 h2
  unfold cPartsR_0
  refine upto (n := x.length) (Q := fun i => Λ1 (i : Int) (partsTo x i)) ?_ ?_ 0 (Nat.zero_le _)
  · apply h1; unfold cPartsR_1
    rw [if_neg (by simp)]; rfl
  · intro i hi ih
    have hpl := partsTo_len x i
    have h16 := pow_le (i := i) (by omega)
    apply h1; unfold cPartsR_1
    rw [if_pos (by simpa using hi)]
    have e0 : partsTo x i = partsTo x i ++ ((partsTo x i).take 0).map (· ++ [x.getD i tEd.dflt]) := by simp
    have key : ∀ k, k ≤ (partsTo x i).length → Λ2 (i : Int) (partsTo x i) (k : Int) (partsTo x i ++ ((partsTo x i).take k).map (· ++ [x.getD i tEd.dflt])) := by
      refine upto ?_ ?_
      · apply h2; unfold cPartsR_2
        rw [if_neg (by simp), List.take_length]
        exact ⟨by unfold inI; omega, ih⟩
      · intro k hk ihk
        rw [take_snoc [] hk, List.map_append, ← List.append_assoc] at ihk
        have hg : (partsTo x i ++ ((partsTo x i).take k).map (· ++ [x.getD i tEd.dflt])).getD k [] = (partsTo x i).getD k [] := by
          rw [List.getD_eq_getElem?_getD, List.getElem?_append_left hk, ← List.getD_eq_getElem?_getD]
        have hsub : ((partsTo x i).getD k []).length ≤ 4 := by
          have := ((parts_iff x _ i (by omega)).1 (mem_getD (d := []) hk)).length_le
          rw [List.length_take] at this; omega
        have hol : (partsTo x i ++ ((partsTo x i).take k).map (· ++ [x.getD i tEd.dflt])).length = (partsTo x i).length + k := by simp; omega
        apply h2; unfold cPartsR_2
        rw [if_pos (by simpa using hk), Int.toNat_natCast, Int.toNat_natCast, hol, hg, List.nil_append]
        refine ⟨by unfold idx; omega, by simp only [List.length_nil]; omega, idx_nat hi, by simp only [List.length_cons, List.length_nil]; omega, by simp only [List.length_cons, List.length_nil]; omega, by unfold inI; omega, ihk⟩
    have := key 0 (Nat.zero_le _)
    rw [← e0] at this
    exact this
abbrev cIsMinR : Con := { A := (.cons (.sl tL) (.cons (.sl tEd) (.cons (.sl tTs) .nil))), R := (.cons .bool (.cons .int .nil)), pre := fun x => True, F := fun x => ((errXT x.1 x.2.1 x.2.2.1 == 0 && minimB x.1 x.2.1 x.2.2.1), errXT x.1 x.2.1 x.2.2.1, ()) }
def cIsMinR_0 (Λ1 : Int → Prop) (p : (List Lin)) (x : (List Edt)) (l : (List Tst)) (y0 : Bool) (y1 : Int) : Prop :=
  True ∧ (if ((errXT p x l) != (0 : Int)) = true then (false = y0 ∧ (errXT p x l) = y1 ∧ True) else (errXT p x l = 0 ∧ (if (!(goodX p x l)) = true then (false = y0 ∧ (0 : Int) = y1 ∧ True) else (x.length ≤ 4 ∧ Λ1 (0 : Int)))))
def cIsMinR_1 (Λ1 : Int → Prop) (p : (List Lin)) (x : (List Edt)) (l : (List Tst)) (y0 : Bool) (y1 : Int)  (i_1 : Int) : Prop :=
  if (decide (i_1 < (List.length (partsL x) : Int))) = true then (idx i_1 (List.length (partsL x) : Int) ∧ (if (decide ((List.length (List.getD (partsL x) (Int.toNat i_1) ([] : List Edt)) : Int) < (List.length x : Int))) = true then (idx i_1 (List.length (partsL x) : Int) ∧ (errXT p (List.getD (partsL x) (Int.toNat i_1) ([] : List Edt)) l = 0 ∧ (True ∧ (if (bif true then (goodX p (List.getD (partsL x) (Int.toNat i_1) ([] : List Edt)) l) else false) = true then (false = y0 ∧ (0 : Int) = y1 ∧ True) else (inI (i_1 + (1 : Int)) ∧ Λ1 (i_1 + (1 : Int))))))) else (false = false ∧ (inI (i_1 + (1 : Int)) ∧ Λ1 (i_1 + (1 : Int)))))) else (true = y0 ∧ (0 : Int) = y1 ∧ True)
theorem cIsMinR_law (h : ∀ (p : (List Lin)) (x : (List Edt)) (l : (List Tst)), cIsMinR.A.wf (p, x, l, ()) → ∀ (Λ1 : Int → Prop), (∀ (i_1 : Int), cIsMinR_1 Λ1 p x l (errXT p x l == 0 && minimB p x l) (errXT p x l) i_1 → Λ1 i_1) → cIsMinR_0 Λ1 p x l (errXT p x l == 0 && minimB p x l) (errXT p x l)) : ConOK Go.Proofs.Tryz.prog 53 cIsMinR := by
  refine lawL (Γ := [(67, cGoodR), (66, cPartsR), (65, cTestedR4)]) (Θ := Th) (n := 48) [([1, 1, 1, 1, 1, 0, 1, 0], ⟨[(0, false), (1, false), (2, false), (9, true), (10, true)], [(24, true)]⟩)] ⟨cGoodR_ok, cPartsR_ok, cTestedR4_ok, trivial⟩ (by kernel_rfl) th_ok mix_ok Go.Proofs.Tryz.func53 (by kernel_rfl) ?_
  intro x hw hp Λ hC
  have h0 := h x.1 x.2.1 x.2.2.1 hw (fun i_1 => Λ [1, 1, 1, 1, 1, 0, 1, 0] ([(0, .d false (.sl tL) x.1), (1, .d false (.sl tEd) x.2.1), (2, .d false (.sl tTs) x.2.2.1), (9, .own 24 0), (10, .d true .int i_1)], [(24, .sl true (.sl tEd) (partsL x.2.1))])) (fun i_1 hb => hC [1, 1, 1, 1, 1, 0, 1, 0] ([(0, .d false (.sl tL) x.1), (1, .d false (.sl tEd) x.2.1), (2, .d false (.sl tTs) x.2.2.1), (9, .own 24 0), (10, .d true .int i_1)], [(24, .sl true (.sl tEd) (partsL x.2.1))]) (Eq.mpr (by kernel_rfl) hb))
  exact Eq.mpr (by kernel_rfl) h0
theorem cIsMinR_ok : ConOK Go.Proofs.Tryz.prog 53 cIsMinR := by
  refine cIsMinR_law ?_
  intro p x l hw Λ1 h1
  unfold cIsMinR_0
  refine ⟨trivial, ?_⟩
  by_cases h : errXT p x l = 0
  · have h4 := (validX_ok (errXT_ok h).2.1).1
    have hR : (errXT p x l == 0 && minimB p x l) = (goodX p x l && !((partsL x).any fun a => decide (a.length < x.length) && goodX p a l)) := by rw [h, ← minim_all]; rfl
    rw [if_neg (by simp [h])]
    refine ⟨h, ?_⟩
    cases hg : goodX p x l
    · rw [if_pos (by rfl)]
      exact ⟨by rw [hR, hg]; rfl, h.symm, trivial⟩
    · rw [hg] at hR
      rw [if_neg (by simp)]
      refine ⟨h4, ?_⟩
      have hpl : (partsL x).length ≤ 16 := by unfold partsL; rw [partsTo_len]; exact pow_le h4
      refine upto (n := (partsL x).length) (Q := fun i => ((partsL x).take i).any (fun a => decide (a.length < x.length) && goodX p a l) = false → Λ1 (i : Int)) ?_ ?_ 0 (Nat.zero_le _) rfl
      · intro ha
        rw [List.take_length] at ha
        apply h1; unfold cIsMinR_1
        rw [if_neg (by simp), hR, ha]
        exact ⟨rfl, h.symm, trivial⟩
      · intro i hi ih ha
        have hs := partsL_iff.1 (mem_getD (d := ([] : List Edt)) hi)
        apply h1; unfold cIsMinR_1
        rw [if_pos (by simpa using hi), Int.toNat_natCast]
        refine ⟨idx_nat hi, ?_⟩
        by_cases c1 : ((partsL x).getD i []).length < x.length
        · rw [if_pos (by rw [decide_eq_true_eq]; omega)]
          refine ⟨idx_nat hi, errXT_sub h hs, trivial, ?_⟩
          cases c2 : goodX p ((partsL x).getD i []) l
          · rw [if_neg (by simp)]
            exact ⟨by unfold inI; omega, ih (any_take_next (p := fun a => decide (a.length < x.length) && goodX p a l) [] hi ha (by rw [c2, Bool.and_false]))⟩
          · rw [if_pos (by rfl)]
            have : ((partsL x).any fun a => decide (a.length < x.length) && goodX p a l) = true := List.any_eq_true.2 ⟨_, mem_getD hi, by rw [c2, decide_eq_true c1]; rfl⟩
            exact ⟨by rw [hR, this]; rfl, h.symm, trivial⟩
        · rw [if_neg (by rw [decide_eq_true_eq]; omega)]
          exact ⟨rfl, by unfold inI; omega, ih (any_take_next (p := fun a => decide (a.length < x.length) && goodX p a l) [] hi ha (by rw [decide_eq_false c1, Bool.false_and]))⟩
  · rw [if_pos (by simpa using h)]
    exact ⟨by rw [beq_eq_false_iff_ne.2 h]; rfl, rfl, trivial⟩
abbrev cSmallestR : Con := { A := (.cons (.sl tL) (.cons (.sl tEd) (.cons (.sl tTs) .nil))), R := (.cons (.sl tEd) (.cons .bool (.cons .int .nil))), pre := fun x => True, F := fun x => ((if errXT x.1 x.2.1 x.2.2.1 = 0 then smallX x.1 x.2.1 x.2.2.1 else []), (errXT x.1 x.2.1 x.2.2.1 == 0 && smallB x.1 x.2.1 x.2.2.1), errXT x.1 x.2.1 x.2.2.1, ()), al := true }
def cSmallestR_0 (Λ1 : (List Edt) → Bool → Int → Prop) (p : (List Lin)) (x : (List Edt)) (l : (List Tst)) (y0 : (List Edt)) (y1 : Bool) (y2 : Int) : Prop :=
  True ∧ (if ((errXT p x l) != (0 : Int)) = true then (([] : List Edt) = y0 ∧ false = y1 ∧ (errXT p x l) = y2 ∧ True) else (x.length ≤ 4 ∧ Λ1 ([] : List Edt) false (0 : Int)))
def cSmallestR_1 (Λ1 : (List Edt) → Bool → Int → Prop) (p : (List Lin)) (x : (List Edt)) (l : (List Tst)) (y0 : (List Edt)) (y1 : Bool) (y2 : Int)  (out_1 : (List Edt)) (found_1 : Bool) (i_1 : Int) : Prop :=
  if (decide (i_1 < (List.length (partsL x) : Int))) = true then (idx i_1 (List.length (partsL x) : Int) ∧ (errXT p (List.getD (partsL x) (Int.toNat i_1) ([] : List Edt)) l = 0 ∧ (if (!(goodX p (List.getD (partsL x) (Int.toNat i_1) ([] : List Edt)) l)) = true then (inI (i_1 + (1 : Int)) ∧ Λ1 out_1 found_1 (i_1 + (1 : Int))) else (if (!found_1) = true then (true = true ∧ (true = true ∧ (idx i_1 (List.length (partsL x) : Int) ∧ (inI (i_1 + (1 : Int)) ∧ Λ1 (List.getD (partsL x) (Int.toNat i_1) ([] : List Edt)) true (i_1 + (1 : Int)))))) else (idx i_1 (List.length (partsL x) : Int) ∧ (True ∧ (if (bif false then true else (decide ((List.length (List.getD (partsL x) (Int.toNat i_1) ([] : List Edt)) : Int) < (List.length out_1 : Int)))) = true then (true = true ∧ (idx i_1 (List.length (partsL x) : Int) ∧ (inI (i_1 + (1 : Int)) ∧ Λ1 (List.getD (partsL x) (Int.toNat i_1) ([] : List Edt)) true (i_1 + (1 : Int))))) else (idx i_1 (List.length (partsL x) : Int) ∧ (if ((List.length (List.getD (partsL x) (Int.toNat i_1) ([] : List Edt)) : Int) == (List.length out_1 : Int)) = true then (idx i_1 (List.length (partsL x) : Int) ∧ (((List.getD (partsL x) (Int.toNat i_1) ([] : List Edt)).length ≤ 1000 ∧ (List.getD (partsL x) (Int.toNat i_1) ([] : List Edt)).length = out_1.length) ∧ (True ∧ (True ∧ (if (bif false then true else (bif true then (decide (cmpL ((List.getD (partsL x) (Int.toNat i_1) ([] : List Edt)).map (·.1)) (out_1.map (·.1)) < 0)) else false)) = true then (idx i_1 (List.length (partsL x) : Int) ∧ (inI (i_1 + (1 : Int)) ∧ Λ1 (List.getD (partsL x) (Int.toNat i_1) ([] : List Edt)) true (i_1 + (1 : Int)))) else (inI (i_1 + (1 : Int)) ∧ Λ1 out_1 found_1 (i_1 + (1 : Int)))))))) else (false = false ∧ (True ∧ (if (bif false then true else false) = true then (idx i_1 (List.length (partsL x) : Int) ∧ (inI (i_1 + (1 : Int)) ∧ Λ1 (List.getD (partsL x) (Int.toNat i_1) ([] : List Edt)) true (i_1 + (1 : Int)))) else (inI (i_1 + (1 : Int)) ∧ Λ1 out_1 found_1 (i_1 + (1 : Int))))))))))))))) else (out_1 = y0 ∧ found_1 = y1 ∧ (0 : Int) = y2 ∧ True)
theorem cSmallestR_law (h : ∀ (p : (List Lin)) (x : (List Edt)) (l : (List Tst)), cSmallestR.A.wf (p, x, l, ()) → ∀ (Λ1 : (List Edt) → Bool → Int → Prop), (∀ (out_1 : (List Edt)) (found_1 : Bool) (i_1 : Int), cSmallestR_1 Λ1 p x l (if errXT p x l = 0 then smallX p x l else []) (errXT p x l == 0 && smallB p x l) (errXT p x l) out_1 found_1 i_1 → Λ1 out_1 found_1 i_1) → cSmallestR_0 Λ1 p x l (if errXT p x l = 0 then smallX p x l else []) (errXT p x l == 0 && smallB p x l) (errXT p x l)) : ConOK Go.Proofs.Tryz.prog 27 cSmallestR := by
  refine lawL (Γ := [(68, cBeforeR), (67, cGoodR), (66, cPartsR), (65, cTestedR4)]) (Θ := Th) (n := 73) [([1, 1, 1, 1, 1, 1, 0, 1, 0], ⟨[(0, false), (2, false), (10, true), (11, true), (12, true), (13, true)], [(22, true)]⟩)] ⟨cBeforeR_ok, cGoodR_ok, cPartsR_ok, cTestedR4_ok, trivial⟩ (by kernel_rfl) th_ok mix_ok Go.Proofs.Tryz.func27 (by kernel_rfl) ?_
  intro x hw hp Λ hC
  have h0 := h x.1 x.2.1 x.2.2.1 hw (fun out_1 found_1 i_1 => Λ [1, 1, 1, 1, 1, 1, 0, 1, 0] ([(0, .d false (.sl tL) x.1), (2, .d false (.sl tTs) x.2.2.1), (10, .own 22 0), (11, .d true (.sl tEd) out_1), (12, .d true .bool found_1), (13, .d true .int i_1)], [(22, .sl true (.sl tEd) (partsL x.2.1))])) (fun out_1 found_1 i_1 hb => hC [1, 1, 1, 1, 1, 1, 0, 1, 0] ([(0, .d false (.sl tL) x.1), (2, .d false (.sl tTs) x.2.2.1), (10, .own 22 0), (11, .d true (.sl tEd) out_1), (12, .d true .bool found_1), (13, .d true .int i_1)], [(22, .sl true (.sl tEd) (partsL x.2.1))]) (Eq.mpr (by kernel_rfl) hb))
  exact Eq.mpr (by kernel_rfl) h0
theorem cSmallestR_ok : ConOK Go.Proofs.Tryz.prog 27 cSmallestR := by
  refine cSmallestR_law ?_
  intro p x l hw Λ1 h1
  unfold cSmallestR_0
  refine ⟨trivial, ?_⟩
  by_cases h : errXT p x l = 0
  · have h4 := (validX_ok (errXT_ok h).2.1).1
    rw [if_neg (by simp [h])]
    refine ⟨h4, ?_⟩
    have hpl : (partsL x).length ≤ 16 := by unfold partsL; rw [partsTo_len]; exact pow_le h4
    have hle : ∀ a ∈ partsL x, a.length ≤ 4 := fun a ha => Nat.le_trans (partsL_iff.1 ha).length_le h4
    refine upto (n := (partsL x).length) (Q := fun i => Λ1 (bestTo p l (partsL x) i).1 (bestTo p l (partsL x) i).2 (i : Int)) ?_ ?_ 0 (Nat.zero_le _)
    · apply h1; unfold cSmallestR_1
      rw [if_neg (by simp), best_small, if_pos h]
      exact ⟨rfl, by rw [h]; rfl, h.symm, trivial⟩
    · intro i hi ih
      have hm := mem_getD (d := ([] : List Edt)) hi
      have ha4 := hle _ hm
      rw [bestTo] at ih
      apply h1; unfold cSmallestR_1
      rw [if_pos (by simpa using hi), Int.toNat_natCast]
      revert ih
      generalize bestTo p l (partsL x) i = s
      obtain ⟨o, f⟩ := s
      generalize (partsL x).getD i [] = a at *
      unfold bestStep
      intro ih
      refine ⟨idx_nat hi, errXT_sub h (partsL_iff.1 hm), ?_⟩
      cases hg : goodX p a l
      · rw [hg, if_neg (by simp)] at ih
        rw [if_pos (by rfl)]
        exact ⟨by unfold inI; omega, ih⟩
      · rw [hg, if_pos rfl] at ih
        rw [if_neg (by simp)]
        cases f with
        | false =>
          rw [if_neg (by simp)] at ih
          rw [if_pos (by rfl)]
          exact ⟨rfl, rfl, idx_nat hi, by unfold inI; omega, ih⟩
        | true =>
          rw [if_pos rfl] at ih
          rw [if_neg (by simp)]
          refine ⟨idx_nat hi, trivial, ?_⟩
          have less : cmpPart a o < 0 → Λ1 a true ((i : Int) + 1) := fun e => by
            have : minStep o a = a := by unfold minStep; rw [if_pos e]
            rw [this] at ih; exact ih
          have more : ¬ cmpPart a o < 0 → Λ1 o true ((i : Int) + 1) := fun e => by
            have : minStep o a = o := by unfold minStep; rw [if_neg e]
            rw [this] at ih; exact ih
          rw [cmpPart_lt] at less more
          by_cases c1 : a.length < o.length
          · rw [if_pos (by rw [decide_eq_true (show (a.length : Int) < o.length by omega)]; rfl)]
            exact ⟨rfl, idx_nat hi, by unfold inI; omega, less (.inl c1)⟩
          · rw [if_neg (by rw [decide_eq_false (show ¬ (a.length : Int) < o.length by omega)]; simp)]
            refine ⟨idx_nat hi, ?_⟩
            by_cases c2 : a.length = o.length
            · rw [if_pos (by rw [c2]; simp)]
              refine ⟨idx_nat hi, ⟨by show a.length ≤ 1000; omega, c2⟩, trivial, trivial, ?_⟩
              cases c3 : decide (cmpL (a.map (·.1)) (o.map (·.1)) < 0)
              · rw [if_neg (by simp)]
                exact ⟨by unfold inI; omega, more fun g => g.elim c1 fun g => of_decide_eq_false c3 g.2⟩
              · rw [if_pos (by rfl)]
                exact ⟨idx_nat hi, by unfold inI; omega, less (.inr ⟨c2, of_decide_eq_true c3⟩)⟩
            · rw [if_neg (by rw [beq_iff_eq]; show ¬ (a.length : Int) = (o.length : Int); omega)]
              refine ⟨rfl, trivial, ?_⟩
              rw [if_neg (by simp)]
              exact ⟨by unfold inI; omega, more fun g => g.elim c1 fun g => c2 g.1⟩
  · rw [if_pos (by simpa using h), if_neg h]
    exact ⟨rfl, by rw [beq_eq_false_iff_ne.2 h]; rfl, rfl, trivial⟩
abbrev cLong4 : Con := { A := (.cons (.sl tL) (.cons (.sl tEd) .nil)), R := (.cons .bool .nil), pre := fun x => True, F := fun x => (decide (x.1.length > 100) || decide (x.2.1.length > 100), ()) }
def cLong4_0  (p : (List Lin)) (x : (List Edt)) (y0 : Bool) : Prop :=
  if (decide ((List.length p : Int) > (100 : Int))) = true then (true = true ∧ (true = y0 ∧ True)) else (True ∧ ((bif false then true else (decide ((List.length x : Int) > (100 : Int)))) = y0 ∧ True))
theorem cLong4_law (h : ∀ (p : (List Lin)) (x : (List Edt)), cLong4.A.wf (p, x, ()) → cLong4_0  p x (decide (p.length > 100) || decide (x.length > 100))) : ConOK Go.Proofs.Tryz.prog 15 cLong4 := by
  refine lawL (Γ := []) (Θ := Th) (n := 13) [] trivial (by kernel_rfl) th_ok mix_ok Go.Proofs.Tryz.func15 (by kernel_rfl) ?_
  intro x hw hp Λ hC
  have h0 := h x.1 x.2.1 hw  
  exact Eq.mpr (by kernel_rfl) h0
theorem cLong4_ok : ConOK Go.Proofs.Tryz.prog 15 cLong4 := by
  refine cLong4_law ?_
  intro p x hw
  unfold cLong4_0
  by_cases c : p.length > 100
  · rw [if_pos (by simp; omega), decide_eq_true c]
    exact ⟨rfl, rfl, trivial⟩
  · rw [if_neg (by simp; omega), decide_eq_false c]
    refine ⟨trivial, ?_, trivial⟩
    by_cases d : x.length > 100
    · rw [decide_eq_true d, decide_eq_true (show (x.length : Int) > 100 by omega)]; rfl
    · rw [decide_eq_false d, decide_eq_false (show ¬ (x.length : Int) > 100 by omega)]; rfl
abbrev cMany4 : Con := { A := (.cons (.sl tTs) .nil), R := (.cons .bool .nil), pre := fun x => True, F := fun x => (decide (x.1.length > 50) || x.1.any (fun t' => decide (50 < t'.1.length)), ()) }
def cMany4_0 (Λ1 : Int → Prop) (l : (List Tst)) (y0 : Bool) : Prop :=
  Λ1 (0 : Int)
def cMany4_1 (Λ1 : Int → Prop) (l : (List Tst)) (y0 : Bool)  (i_1 : Int) : Prop :=
  if (decide (i_1 < (List.length l : Int))) = true then (idx i_1 (List.length l : Int) ∧ (if (decide ((List.length ((List.getD l (Int.toNat i_1) tTs.dflt).1) : Int) > (50 : Int))) = true then (true = y0 ∧ True) else (inI (i_1 + (1 : Int)) ∧ Λ1 (i_1 + (1 : Int))))) else ((decide ((List.length l : Int) > (50 : Int))) = y0 ∧ True)
theorem cMany4_law (h : ∀ (l : (List Tst)), cMany4.A.wf (l, ()) → ∀ (Λ1 : Int → Prop), (∀ (i_1 : Int), cMany4_1 Λ1 l (decide (l.length > 50) || l.any (fun t' => decide (50 < t'.1.length))) i_1 → Λ1 i_1) → cMany4_0 Λ1 l (decide (l.length > 50) || l.any (fun t' => decide (50 < t'.1.length)))) : ConOK Go.Proofs.Tryz.prog 25 cMany4 := by
  refine lawL (Γ := []) (Θ := Th) (n := 20) [([1, 0, 1, 0], ⟨[(0, false), (3, true)], []⟩)] trivial (by kernel_rfl) th_ok mix_ok Go.Proofs.Tryz.func25 (by kernel_rfl) ?_
  intro x hw hp Λ hC
  have h0 := h x.1 hw (fun i_1 => Λ [1, 0, 1, 0] ([(0, .d false (.sl tTs) x.1), (3, .d true .int i_1)], [])) (fun i_1 hb => hC [1, 0, 1, 0] ([(0, .d false (.sl tTs) x.1), (3, .d true .int i_1)], []) (Eq.mpr (by kernel_rfl) hb))
  exact Eq.mpr (by kernel_rfl) h0
theorem cMany4_ok : ConOK Go.Proofs.Tryz.prog 25 cMany4 := by
  refine cMany4_law ?_
  intro l hw Λ1 h1
  unfold cMany4_0
  have hll : l.length ≤ 140737488355328 := hw.1.1
  refine upto (n := l.length) (Q := fun i => (l.take i).any (fun t => decide (50 < t.1.length)) = false → Λ1 (i : Int)) ?_ ?_ 0 (Nat.zero_le _) rfl
  · intro ha
    rw [List.take_length] at ha
    apply h1; unfold cMany4_1; rw [if_neg (by simp), ha]
    exact ⟨by simp; omega, trivial⟩
  · intro i hi ih ha
    apply h1; unfold cMany4_1; rw [if_pos (by simpa using hi), Int.toNat_natCast]
    refine ⟨idx_nat hi, ?_⟩
    by_cases hv : 50 < (List.getD l i tTs.dflt).1.length
    · rw [if_pos (by rw [decide_eq_true_eq]; omega)]
      have : l.any (fun t => decide (50 < t.1.length)) = true := List.any_eq_true.2 ⟨_, mem_getD hi, decide_eq_true hv⟩
      rw [this]
      exact ⟨by simp, trivial⟩
    · rw [if_neg (by rw [decide_eq_true_eq]; omega)]
      exact ⟨inI_succ hi hll, ih (any_take_next (p := fun t : Tst => decide (50 < t.1.length)) tTs.dflt hi ha (decide_eq_false hv))⟩
abbrev cProg4 : Con := { A := .nil, R := (.cons (.osl tL) .nil), pre := fun x => True, F := fun x => ([(1, 0, 3, 0, ()), (3, 0, 0, 0, ())], ()) }
def cProg4_0   (y0 : (List Lin)) : Prop :=
  [(1, 0, 3, 0, ()), (3, 0, 0, 0, ())] = y0
theorem cProg4_law (h : cProg4.A.wf (()) → cProg4_0   [(1, 0, 3, 0, ()), (3, 0, 0, 0, ())]) : ConOK Go.Proofs.Tryz.prog 56 cProg4 := by
  refine lawL (Γ := []) (Θ := Th) (n := 4) [] trivial (by kernel_rfl) th_ok mix_ok Go.Proofs.Tryz.func56 (by kernel_rfl) ?_
  intro x hw hp Λ hC
  have h0 := h  hw  
  exact Eq.mpr (by kernel_rfl) h0
theorem cProg4_ok : ConOK Go.Proofs.Tryz.prog 56 cProg4 := by
  refine cProg4_law ?_
  intro hw
  unfold cProg4_0
  rfl
abbrev cSane4 : Con := { A := .nil, R := (.cons .bool .nil), pre := fun x => True, F := fun x => (true, ()) }
def cSane4_0   (y0 : Bool) : Prop :=
  True ∧ (True ∧ (True ∧ (True ∧ (True ∧ (True ∧ (True ∧ (if ((errX ([(1, 0, 3, 0, ()), (3, 0, 0, 0, ())]) [(0, (1, 0, 4, 0, ()), ())]) == (0 : Int)) = true then (True ∧ (if (bif true then (((if errX ([(1, 0, 3, 0, ()), (3, 0, 0, 0, ())]) [(0, (1, 0, 4, 0, ()), ())] = 0 then sizeX ([(1, 0, 3, 0, ()), (3, 0, 0, 0, ())]) [(0, (1, 0, 4, 0, ()), ())] else 0)) == (1 : Int)) else false) = true then (True ∧ (if (bif true then ((errX ([(1, 0, 3, 0, ()), (3, 0, 0, 0, ())]) [(0, (1, 0, 4, 0, ()), ())]) == (0 : Int)) else false) = true then (((if errX ([(1, 0, 3, 0, ()), (3, 0, 0, 0, ())]) [(0, (1, 0, 4, 0, ()), ())] = 0 then invX ([(1, 0, 3, 0, ()), (3, 0, 0, 0, ())]) [(0, (1, 0, 4, 0, ()), ())] else [])).length ≤ 1000000 ∧ (True ∧ (if (bif true then (decide (((if errX ([(1, 0, 3, 0, ()), (3, 0, 0, 0, ())]) [(0, (1, 0, 4, 0, ()), ())] = 0 then invX ([(1, 0, 3, 0, ()), (3, 0, 0, 0, ())]) [(0, (1, 0, 4, 0, ()), ())] else [])) = [(0, (1, 0, 3, 0, ()), ())])) else false) = true then (True ∧ (if (bif true then ((mergeN [(0, (1, 0, 4, 0, ()), ())] [(0, (1, 0, 5, 0, ()), ())]) == (5 : Int)) else false) = true then (True ∧ (if (bif true then ((errXT ([(1, 0, 3, 0, ()), (3, 0, 0, 0, ())]) [(0, (1, 0, 4, 0, ()), ())] ([([(0 : Int), (0 : Int), (0 : Int), (0 : Int)], 0, 8, ())])) == (0 : Int)) else false) = true then (True ∧ ((bif true then ((errXT ([(1, 0, 3, 0, ()), (3, 0, 0, 0, ())]) [(0, (1, 0, 4, 0, ()), ())] ([([(0 : Int), (0 : Int), (0 : Int), (0 : Int)], 0, 8, ())]) == 0 && minimB ([(1, 0, 3, 0, ()), (3, 0, 0, 0, ())]) [(0, (1, 0, 4, 0, ()), ())] ([([(0 : Int), (0 : Int), (0 : Int), (0 : Int)], 0, 8, ())]))) else false) = y0 ∧ True)) else (false = false ∧ (false = y0 ∧ True)))) else (false = false ∧ (false = false ∧ (false = y0 ∧ True))))) else (false = false ∧ (false = false ∧ (false = false ∧ (false = y0 ∧ True))))))) else (false = false ∧ (false = false ∧ (false = false ∧ (false = false ∧ (false = y0 ∧ True))))))) else (false = false ∧ (false = false ∧ (false = false ∧ (false = false ∧ (false = false ∧ (false = y0 ∧ True)))))))) else (false = false ∧ (false = false ∧ (false = false ∧ (false = false ∧ (false = false ∧ (false = false ∧ (false = y0 ∧ True))))))))))))))
theorem cSane4_law (h : cSane4.A.wf (()) → cSane4_0   true) : ConOK Go.Proofs.Tryz.prog 16 cSane4 := by
  refine lawL (Γ := [(22, cInv), (28, cIsMin), (29, cMerge4), (56, cProg4), (24, cSameR), (32, cSize4)]) (Θ := Th) (n := 70) [] ⟨cInv_ok, cIsMin_ok, cMerge4_ok, cProg4_ok, cSameR_ok, cSize4_ok, trivial⟩ (by kernel_rfl) th_ok mix_ok Go.Proofs.Tryz.func16 (by kernel_rfl) ?_
  intro x hw hp Λ hC
  have h0 := h  hw  
  exact Eq.mpr (by kernel_rfl) h0
theorem cSane4_ok : ConOK Go.Proofs.Tryz.prog 16 cSane4 := by
  refine cSane4_law ?_
  intro hw
  unfold cSane4_0
  refine ⟨trivial, trivial, trivial, trivial, trivial, trivial, trivial, ?_⟩
  rw [if_pos (by decide +kernel)]
  refine ⟨trivial, ?_⟩
  rw [if_pos (by decide +kernel)]
  refine ⟨trivial, ?_⟩
  rw [if_pos (by decide +kernel)]
  refine ⟨by decide +kernel, trivial, ?_⟩
  rw [if_pos (by decide +kernel)]
  refine ⟨trivial, ?_⟩
  rw [if_pos (by decide +kernel)]
  refine ⟨trivial, ?_⟩
  rw [if_pos (by decide +kernel)]
  exact ⟨trivial, by decide +kernel, trivial⟩
end Go.Tk
/- Layer 4: the statements. -/
set_option linter.unusedSimpArgs false
set_option linter.unusedVariables false
set_option linter.unnecessarySimpa false
namespace Go.Tk
open Go Go.RowKit
theorem long_false {p : List Lin} {x : List Edt} (c : (decide (p.length > 100) || decide (x.length > 100)) = false) : p.length ≤ 100 ∧ x.length ≤ 100 := by
  rw [Bool.or_eq_false_iff, decide_eq_false_iff_not, decide_eq_false_iff_not] at c
  omega
theorem lim_len (E : List (Int × Lin)) : (limE E).length ≤ 4 := by
  unfold limE
  split
  · simp
  · rw [edit_len]; omega
theorem diffX_len (p q : List Lin) : (diffX p q).length ≤ 4 := by
  unfold diffX
  split
  · split
    · exact lim_len _
    · simp
  · simp
theorem mergeX_len (x y : List Edt) : (mergeX x y).length ≤ 4 := by
  unfold mergeX
  split
  · split
    · simp
    · exact lim_len _
  · simp
theorem keepX_len (x : List Edt) (a : List Int) : (keepX x a).length ≤ x.length := by
  unfold keepX
  split
  · exact List.length_filter_le _ _
  · simp
abbrev cPatchDoes : Con := { A := (.cons (.sl tL) (.cons (.sl tEd) .nil)), R := (.cons .bool .nil), pre := fun x => True, F := fun x => (true, ()) }
def cPatchDoes_0 (Λ1 : Int → (List Lin) → Prop) (p : (List Lin)) (x : (List Edt)) (y0 : Bool) : Prop :=
  True ∧ (if (decide (p.length > 100) || decide (x.length > 100)) = true then (True ∧ (true = y0 ∧ True)) else (List.length ([] : List Lin) + List.length p ≤ 4294967296 ∧ (True ∧ (True ∧ (True ∧ (True ∧ (if ((validX x) != (validX x)) = true then (true = true ∧ (true = true ∧ (false = y0 ∧ True))) else (((if errX (([] : List Lin) ++ p) x = 0 then playX (([] : List Lin) ++ p) x else [])).length ≤ 1000000 ∧ (True ∧ (if (bif false then true else (!(decide (((if errX (([] : List Lin) ++ p) x = 0 then playX (([] : List Lin) ++ p) x else [])) = ((if errX p x = 0 then playX p x else [])))))) = true then (true = true ∧ (false = y0 ∧ True)) else (True ∧ (if (bif false then true else ((errX (([] : List Lin) ++ p) x) != (errX p x))) = true then (false = y0 ∧ True) else Λ1 (0 : Int) ((if errX (([] : List Lin) ++ p) x = 0 then playX (([] : List Lin) ++ p) x else []))))))))))))))
def cPatchDoes_1 (Λ1 : Int → (List Lin) → Prop) (p : (List Lin)) (x : (List Edt)) (y0 : Bool)  (i_1 : Int) (a_1 : (List Lin)) : Prop :=
  if (decide (i_1 < (List.length a_1 : Int))) = true then (idx i_1 (List.length a_1 : Int) ∧ (inI (i_1 + (1 : Int)) ∧ Λ1 (i_1 + (1 : Int)) (List.set a_1 (Int.toNat i_1) ((-1), (List.getD a_1 (Int.toNat i_1) tL.dflt).2.1, (List.getD a_1 (Int.toNat i_1) tL.dflt).2.2.1, (List.getD a_1 (Int.toNat i_1) tL.dflt).2.2.2.1, ())))) else ((([] : List Lin) ++ p).length ≤ 1000000 ∧ (if (decide ((([] : List Lin) ++ p) = p)) = true then (True ∧ (True ∧ ((bif true then true else false) = y0 ∧ True))) else (false = false ∧ (false = y0 ∧ True))))
theorem cPatchDoes_law (h : ∀ (p : (List Lin)) (x : (List Edt)), cPatchDoes.A.wf (p, x, ()) → ∀ (Λ1 : Int → (List Lin) → Prop), (∀ (i_1 : Int) (a_1 : (List Lin)), cPatchDoes_1 Λ1 p x true i_1 a_1 → Λ1 i_1 a_1) → cPatchDoes_0 Λ1 p x true) : ConOK Go.Proofs.Tryz.prog 3 cPatchDoes := by
  refine lawL (Γ := [(17, cDoE), (18, cDoR), (15, cLong4), (21, cSameL4), (16, cSane4), (20, cVal4R), (19, cValX)]) (Θ := Th) (n := 62) [([1, 1, 1, 1, 1, 1, 0, 1, 0], ⟨[(0, false), (5, true), (6, true), (10, true)], [(15, true), (21, true)]⟩)] ⟨cDoE_ok, cDoR_ok, cLong4_ok, cSameL4_ok, cSane4_ok, cVal4R_ok, cValX_ok, trivial⟩ (by kernel_rfl) th_ok mix_ok Go.Proofs.Tryz.func3 (by kernel_rfl) ?_
  intro x hw hp Λ hC
  have h0 := h x.1 x.2.1 hw (fun i_1 a_1 => Λ [1, 1, 1, 1, 1, 1, 0, 1, 0] ([(0, .d false (.sl tL) x.1), (5, .own 15 0), (6, .own 21 0), (10, .d true .int i_1)], [(15, .sl true tL (([] : List Lin) ++ x.1)), (21, .sl true tL a_1)])) (fun i_1 a_1 hb => hC [1, 1, 1, 1, 1, 1, 0, 1, 0] ([(0, .d false (.sl tL) x.1), (5, .own 15 0), (6, .own 21 0), (10, .d true .int i_1)], [(15, .sl true tL (([] : List Lin) ++ x.1)), (21, .sl true tL a_1)]) (Eq.mpr (by kernel_rfl) hb))
  exact Eq.mpr (by kernel_rfl) h0
theorem cPatchDoes_ok : ConOK Go.Proofs.Tryz.prog 3 cPatchDoes := by
  refine cPatchDoes_law ?_
  intro p x hw Λ1 h1
  unfold cPatchDoes_0
  refine ⟨trivial, ?_⟩
  cases c : (decide (p.length > 100) || decide (x.length > 100))
  · obtain ⟨c1, c2⟩ := long_false c
    have hl : (if errX p x = 0 then playX p x else []).length ≤ 100 := by split; rw [playX_len]; exact c1; simp
    have loop : ∀ a : List Lin, a.length ≤ 100 → Λ1 0 a := by
      intro a ha
      have key : ∀ i, i ≤ a.length → ∀ b : List Lin, b.length = a.length → Λ1 (i : Int) b := by
        refine upto ?_ ?_
        · intro b hb
          apply h1; unfold cPatchDoes_1
          rw [if_neg (by simp [hb]), List.nil_append, if_pos (by simp)]
          exact ⟨by omega, trivial, trivial, rfl, trivial⟩
        · intro i hi ih b hb
          apply h1; unfold cPatchDoes_1
          rw [if_pos (by simp [hb]; exact hi)]
          exact ⟨by unfold idx; omega, by unfold inI; omega, ih _ (by rw [List.length_set]; exact hb)⟩
      exact key 0 (Nat.zero_le _) a rfl
    rw [if_neg (by simp), List.nil_append]
    have hl2 : (if errX p x = 0 then playX p x else []).length ≤ 1000000 := by omega
    have lp := loop _ hl
    refine ⟨by simp only [List.length_nil]; omega, trivial, trivial, trivial, trivial, ?_⟩
    rw [if_neg (by simp)]
    refine ⟨hl2, trivial, ?_⟩
    rw [if_neg (by simp)]
    refine ⟨trivial, ?_⟩
    rw [if_neg (by simp)]
    exact lp
  · rw [if_pos rfl]; exact ⟨trivial, rfl, trivial⟩
abbrev cPatchUndoes : Con := { A := (.cons (.sl tL) (.cons (.sl tEd) .nil)), R := (.cons .bool .nil), pre := fun x => True, F := fun x => (true, ()) }
def cPatchUndoes_0  (p : (List Lin)) (x : (List Edt)) (y0 : Bool) : Prop :=
  True ∧ (if (decide (p.length > 100) || decide (x.length > 100)) = true then (True ∧ (true = y0 ∧ True)) else (True ∧ (True ∧ (((if errX p x = 0 then invX p x else [])).length ≤ 1000000 ∧ (if (!(decide (((if errX p x = 0 then invX p x else [])) = ((if errX p x = 0 then invX p x else []))))) = true then (true = true ∧ (false = y0 ∧ True)) else (True ∧ (if (bif false then true else ((errX p x) != (errX p x))) = true then (false = y0 ∧ True) else (if ((errX p x) != (0 : Int)) = true then (True ∧ (true = y0 ∧ True)) else (True ∧ (True ∧ (True ∧ (if ((errX p x) == (0 : Int)) = true then (True ∧ (if (bif true then ((errX ((if errX p x = 0 then playX p x else [])) ((if errX p x = 0 then invX p x else []))) == (0 : Int)) else false) = true then (((if errX ((if errX p x = 0 then playX p x else [])) ((if errX p x = 0 then invX p x else [])) = 0 then playX ((if errX p x = 0 then playX p x else [])) ((if errX p x = 0 then invX p x else [])) else [])).length ≤ 1000000 ∧ (True ∧ (if (bif true then (decide (((if errX ((if errX p x = 0 then playX p x else [])) ((if errX p x = 0 then invX p x else [])) = 0 then playX ((if errX p x = 0 then playX p x else [])) ((if errX p x = 0 then invX p x else [])) else [])) = p)) else false) = true then (True ∧ (if (bif true then ((errX ((if errX p x = 0 then playX p x else [])) ((if errX p x = 0 then invX p x else []))) == (0 : Int)) else false) = true then (((if errX ((if errX p x = 0 then playX p x else [])) ((if errX p x = 0 then invX p x else [])) = 0 then invX ((if errX p x = 0 then playX p x else [])) ((if errX p x = 0 then invX p x else [])) else [])).length ≤ 1000000 ∧ (True ∧ (if (bif true then (decide (((if errX ((if errX p x = 0 then playX p x else [])) ((if errX p x = 0 then invX p x else [])) = 0 then invX ((if errX p x = 0 then playX p x else [])) ((if errX p x = 0 then invX p x else [])) else [])) = x)) else false) = true then (True ∧ (True ∧ ((bif true then true else false) = y0 ∧ True))) else (false = false ∧ (false = y0 ∧ True))))) else (false = false ∧ (false = false ∧ (false = y0 ∧ True))))) else (false = false ∧ (false = false ∧ (false = false ∧ (false = y0 ∧ True))))))) else (false = false ∧ (false = false ∧ (false = false ∧ (false = false ∧ (false = y0 ∧ True))))))) else (false = false ∧ (false = false ∧ (false = false ∧ (false = false ∧ (false = false ∧ (false = y0 ∧ True))))))))))))))))))
theorem cPatchUndoes_law (h : ∀ (p : (List Lin)) (x : (List Edt)), cPatchUndoes.A.wf (p, x, ()) → cPatchUndoes_0  p x true) : ConOK Go.Proofs.Tryz.prog 4 cPatchUndoes := by
  refine lawL (Γ := [(17, cDoE), (22, cInv), (23, cInvR), (15, cLong4), (21, cSameL4), (24, cSameR), (16, cSane4)]) (Θ := Th) (n := 84) [] ⟨cDoE_ok, cInv_ok, cInvR_ok, cLong4_ok, cSameL4_ok, cSameR_ok, cSane4_ok, trivial⟩ (by kernel_rfl) th_ok mix_ok Go.Proofs.Tryz.func4 (by kernel_rfl) ?_
  intro x hw hp Λ hC
  have h0 := h x.1 x.2.1 hw  
  exact Eq.mpr (by kernel_rfl) h0
theorem cPatchUndoes_ok : ConOK Go.Proofs.Tryz.prog 4 cPatchUndoes := by
  refine cPatchUndoes_law ?_
  intro p x hw
  unfold cPatchUndoes_0
  refine ⟨trivial, ?_⟩
  cases c : (decide (p.length > 100) || decide (x.length > 100))
  · obtain ⟨c1, c2⟩ := long_false c
    have hil : (invX p x).length = x.length := by simp [invX]
    by_cases h : errX p x = 0
    · have f1 := inv_errX h
      have f2 := undo_play h
      have f3 := undo_inv h
      simp [h, f1, f2, f3, hil]
      omega
    · simp [h]
  · rw [if_pos rfl]; exact ⟨trivial, rfl, trivial⟩
abbrev cPatchDiffers : Con := { A := (.cons (.sl tL) (.cons (.sl tL) .nil)), R := (.cons .bool .nil), pre := fun x => True, F := fun x => (true, ()) }
def cPatchDiffers_0  (p : (List Lin)) (q : (List Lin)) (y0 : Bool) : Prop :=
  True ∧ (if (decide (p.length > 100) || decide (([] : List Edt).length > 100)) = true then (true = true ∧ (True ∧ (true = y0 ∧ True))) else (True ∧ (True ∧ (if (bif false then true else (decide (q.length > 100) || decide (([] : List Edt).length > 100))) = true then (True ∧ (true = y0 ∧ True)) else (True ∧ (True ∧ ((diffX p q).length ≤ 1000000 ∧ (if (!(decide ((diffX p q) = (diffX p q)))) = true then (true = true ∧ (false = y0 ∧ True)) else (True ∧ (if (bif false then true else ((diffN p q) != (diffN p q))) = true then (false = y0 ∧ True) else (if ((diffN p q) != (0 : Int)) = true then (True ∧ (true = y0 ∧ True)) else (True ∧ (True ∧ (if ((errX p (diffX p q)) == (0 : Int)) = true then (((if errX p (diffX p q) = 0 then playX p (diffX p q) else [])).length ≤ 1000000 ∧ (True ∧ (if (bif true then (decide (((if errX p (diffX p q) = 0 then playX p (diffX p q) else [])) = q)) else false) = true then (True ∧ (if (bif true then ((errX p (diffX p q)) == (0 : Int)) else false) = true then (((if errX p (diffX p q) = 0 then cleanX p (diffX p q) else [])).length ≤ 1000000 ∧ (True ∧ (if (bif true then (decide (((if errX p (diffX p q) = 0 then cleanX p (diffX p q) else [])) = (diffX p q))) else false) = true then (True ∧ (True ∧ ((bif true then true else false) = y0 ∧ True))) else (false = false ∧ (false = y0 ∧ True))))) else (false = false ∧ (false = false ∧ (false = y0 ∧ True))))) else (false = false ∧ (false = false ∧ (false = false ∧ (false = y0 ∧ True))))))) else (false = false ∧ (false = false ∧ (false = false ∧ (false = false ∧ (false = y0 ∧ True)))))))))))))))))))
theorem cPatchDiffers_law (h : ∀ (p : (List Lin)) (q : (List Lin)), cPatchDiffers.A.wf (p, q, ()) → cPatchDiffers_0  p q true) : ConOK Go.Proofs.Tryz.prog 10 cPatchDiffers := by
  refine lawL (Γ := [(34, cClean), (40, cDiff4), (41, cDiffR), (17, cDoE), (15, cLong4), (21, cSameL4), (24, cSameR), (16, cSane4)]) (Θ := Th) (n := 75) [] ⟨cClean_ok, cDiff4_ok, cDiffR_ok, cDoE_ok, cLong4_ok, cSameL4_ok, cSameR_ok, cSane4_ok, trivial⟩ (by kernel_rfl) th_ok mix_ok Go.Proofs.Tryz.func10 (by kernel_rfl) ?_
  intro x hw hp Λ hC
  have h0 := h x.1 x.2.1 hw  
  exact Eq.mpr (by kernel_rfl) h0
theorem cPatchDiffers_ok : ConOK Go.Proofs.Tryz.prog 10 cPatchDiffers := by
  refine cPatchDiffers_law ?_
  intro p q hw
  unfold cPatchDiffers_0
  refine ⟨trivial, ?_⟩
  have hd := diffX_len p q
  cases c : (decide (p.length > 100) || decide (([] : List Edt).length > 100))
  · obtain ⟨c1, _⟩ := long_false c
    rw [if_neg (by simp)]
    refine ⟨trivial, trivial, ?_⟩
    cases d : (decide (q.length > 100) || decide (([] : List Edt).length > 100))
    · obtain ⟨d1, _⟩ := long_false d
      rw [if_neg (by simp)]
      refine ⟨trivial, trivial, by omega, ?_⟩
      by_cases h : diffN p q = 0
      · have f1 := diff_err h
        have f2 := diff_play h
        have f3 := diff_clean h
        simp [h, f1, f2, f3]
        omega
      · simp [h]
    · rw [if_pos (by rfl)]; exact ⟨trivial, rfl, trivial⟩
  · rw [if_pos rfl]; exact ⟨rfl, trivial, rfl, trivial⟩
abbrev cPatchSizes : Con := { A := (.cons (.sl tL) (.cons (.sl tEd) .nil)), R := (.cons .bool .nil), pre := fun x => True, F := fun x => (true, ()) }
def cPatchSizes_0  (p : (List Lin)) (x : (List Edt)) (y0 : Bool) : Prop :=
  True ∧ (if (decide (p.length > 100) || decide (x.length > 100)) = true then (True ∧ (true = y0 ∧ True)) else (True ∧ (True ∧ (True ∧ (True ∧ (if (((if errX p x = 0 then sizeX p x else 0)) != ((if errX p x = 0 then sizeX p x else 0))) = true then (true = true ∧ (true = true ∧ (true = true ∧ (false = y0 ∧ True)))) else (True ∧ (if (bif false then true else ((errX p x) != (errX p x))) = true then (true = true ∧ (true = true ∧ (false = y0 ∧ True))) else (((if errX p x = 0 then cleanX p x else [])).length ≤ 1000000 ∧ (True ∧ (if (bif false then true else (!(decide (((if errX p x = 0 then cleanX p x else [])) = ((if errX p x = 0 then cleanX p x else [])))))) = true then (true = true ∧ (false = y0 ∧ True)) else (True ∧ (if (bif false then true else ((errX p x) != (errX p x))) = true then (false = y0 ∧ True) else (if ((errX p x) != (0 : Int)) = true then (True ∧ (true = y0 ∧ True)) else (True ∧ (True ∧ (True ∧ (if ((errX p ((if errX p x = 0 then cleanX p x else []))) == (0 : Int)) = true then (True ∧ (if (bif true then (((if errX p ((if errX p x = 0 then cleanX p x else [])) = 0 then sizeX p ((if errX p x = 0 then cleanX p x else [])) else 0)) == ((if errX p x = 0 then sizeX p x else 0))) else false) = true then (True ∧ (if (bif true then ((errX p x) == (0 : Int)) else false) = true then (True ∧ (if (bif true then ((errX p ((if errX p x = 0 then cleanX p x else []))) == (0 : Int)) else false) = true then (((if errX p x = 0 then playX p x else [])).length ≤ 1000000 ∧ (True ∧ (if (bif true then (decide (((if errX p x = 0 then playX p x else [])) = ((if errX p ((if errX p x = 0 then cleanX p x else [])) = 0 then playX p ((if errX p x = 0 then cleanX p x else [])) else [])))) else false) = true then (True ∧ (if (bif true then (decide (((if errX p ((if errX p x = 0 then cleanX p x else [])) = 0 then sizeX p ((if errX p x = 0 then cleanX p x else [])) else 0)) ≥ (List.length ((if errX p x = 0 then cleanX p x else [])) : Int))) else false) = true then (True ∧ (True ∧ ((bif true then true else false) = y0 ∧ True))) else (false = false ∧ (false = y0 ∧ True)))) else (false = false ∧ (false = false ∧ (false = y0 ∧ True)))))) else (false = false ∧ (false = false ∧ (false = false ∧ (false = y0 ∧ True)))))) else (false = false ∧ (false = false ∧ (false = false ∧ (false = false ∧ (false = y0 ∧ True))))))) else (false = false ∧ (false = false ∧ (false = false ∧ (false = false ∧ (false = false ∧ (false = y0 ∧ True)))))))) else (false = false ∧ (false = false ∧ (false = false ∧ (false = false ∧ (false = false ∧ (false = false ∧ (false = y0 ∧ True)))))))))))))))))))))))))
theorem cPatchSizes_law (h : ∀ (p : (List Lin)) (x : (List Edt)), cPatchSizes.A.wf (p, x, ()) → cPatchSizes_0  p x true) : ConOK Go.Proofs.Tryz.prog 7 cPatchSizes := by
  refine lawL (Γ := [(34, cClean), (35, cCleanR), (17, cDoE), (15, cLong4), (21, cSameL4), (24, cSameR), (16, cSane4), (32, cSize4), (33, cSizeR)]) (Θ := Th) (n := 116) [] ⟨cClean_ok, cCleanR_ok, cDoE_ok, cLong4_ok, cSameL4_ok, cSameR_ok, cSane4_ok, cSize4_ok, cSizeR_ok, trivial⟩ (by kernel_rfl) th_ok mix_ok Go.Proofs.Tryz.func7 (by kernel_rfl) ?_
  intro x hw hp Λ hC
  have h0 := h x.1 x.2.1 hw  
  exact Eq.mpr (by kernel_rfl) h0
theorem cPatchSizes_ok : ConOK Go.Proofs.Tryz.prog 7 cPatchSizes := by
  refine cPatchSizes_law ?_
  intro p x hw
  unfold cPatchSizes_0
  refine ⟨trivial, ?_⟩
  cases c : (decide (p.length > 100) || decide (x.length > 100))
  · obtain ⟨c1, c2⟩ := long_false c
    have hcl := (clean_sub p x).length_le
    by_cases h : errX p x = 0
    · have f1 := clean_err h
      have f2 := clean_size p x
      have f3 := clean_play h
      have f4 := clean_count p x
      rw [f2] at f4
      have f5 : (cleanX p x).length ≤ 1000000 := by omega
      simp [h, f1, f2, f3, f4, f5, playX_len]
      omega
    · simp [h]
  · rw [if_pos rfl]; exact ⟨trivial, rfl, trivial⟩
abbrev cPatchThen : Con := { A := (.cons (.sl tL) (.cons (.sl tEd) (.cons (.sl tEd) .nil))), R := (.cons .bool .nil), pre := fun x => True, F := fun x => (true, ()) }
def cPatchThen_0  (p : (List Lin)) (x : (List Edt)) (y_ : (List Edt)) (y0 : Bool) : Prop :=
  True ∧ (if (decide (p.length > 100) || decide (x.length > 100)) = true then (true = true ∧ (True ∧ (true = y0 ∧ True))) else (True ∧ (True ∧ (if (bif false then true else (decide (p.length > 100) || decide (y_.length > 100))) = true then (True ∧ (true = y0 ∧ True)) else (True ∧ (True ∧ (((if bothX x y_ = 0 then limE (thenE x y_) else [])).length ≤ 1000000 ∧ (if (!(decide (((if bothX x y_ = 0 then limE (thenE x y_) else [])) = ((if bothX x y_ = 0 then limE (thenE x y_) else []))))) = true then (true = true ∧ (false = y0 ∧ True)) else (True ∧ (if (bif false then true else (((if bothX x y_ = 0 then limN (thenE x y_) else bothX x y_)) != ((if bothX x y_ = 0 then limN (thenE x y_) else bothX x y_)))) = true then (false = y0 ∧ True) else (True ∧ (True ∧ (True ∧ (if (((if bothX x y_ = 0 then limN (thenE x y_) else bothX x y_)) != (0 : Int)) = true then (true = true ∧ (true = true ∧ (True ∧ (true = y0 ∧ True)))) else (True ∧ (if (bif false then true else ((errX p x) != (0 : Int))) = true then (true = true ∧ (True ∧ (true = y0 ∧ True))) else (True ∧ (if (bif false then true else ((errX ((if errX p x = 0 then playX p x else [])) y_) != (0 : Int))) = true then (True ∧ (true = y0 ∧ True)) else (if ((errX p ((if bothX x y_ = 0 then limE (thenE x y_) else []))) == (0 : Int)) = true then (((if errX ((if errX p x = 0 then playX p x else [])) y_ = 0 then playX ((if errX p x = 0 then playX p x else [])) y_ else [])).length ≤ 1000000 ∧ (True ∧ (if (bif true then (decide (((if errX ((if errX p x = 0 then playX p x else [])) y_ = 0 then playX ((if errX p x = 0 then playX p x else [])) y_ else [])) = ((if errX p ((if bothX x y_ = 0 then limE (thenE x y_) else [])) = 0 then playX p ((if bothX x y_ = 0 then limE (thenE x y_) else [])) else [])))) else false) = true then (True ∧ (True ∧ ((bif true then true else false) = y0 ∧ True))) else (false = false ∧ (false = y0 ∧ True))))) else (false = false ∧ (false = false ∧ (false = y0 ∧ True))))))))))))))))))))))
theorem cPatchThen_law (h : ∀ (p : (List Lin)) (x : (List Edt)) (y_ : (List Edt)), cPatchThen.A.wf (p, x, y_, ()) → cPatchThen_0  p x y_ true) : ConOK Go.Proofs.Tryz.prog 8 cPatchThen := by
  refine lawL (Γ := [(17, cDoE), (15, cLong4), (21, cSameL4), (24, cSameR), (16, cSane4), (31, cThen4), (36, cThenR)]) (Θ := Th) (n := 86) [] ⟨cDoE_ok, cLong4_ok, cSameL4_ok, cSameR_ok, cSane4_ok, cThen4_ok, cThenR_ok, trivial⟩ (by kernel_rfl) th_ok mix_ok Go.Proofs.Tryz.func8 (by kernel_rfl) ?_
  intro x hw hp Λ hC
  have h0 := h x.1 x.2.1 x.2.2.1 hw  
  exact Eq.mpr (by kernel_rfl) h0
theorem cPatchThen_ok : ConOK Go.Proofs.Tryz.prog 8 cPatchThen := by
  refine cPatchThen_law ?_
  intro p x y_ hw
  unfold cPatchThen_0
  refine ⟨trivial, ?_⟩
  cases c : (decide (p.length > 100) || decide (x.length > 100))
  · obtain ⟨c1, c2⟩ := long_false c
    rw [if_neg (by simp)]
    refine ⟨trivial, trivial, ?_⟩
    cases d : (decide (p.length > 100) || decide (y_.length > 100))
    · obtain ⟨_, d2⟩ := long_false d
      rw [if_neg (by simp)]
      refine ⟨trivial, trivial, ?_⟩
      by_cases h : bothX x y_ = 0
      · obtain ⟨hx, hy⟩ := bothX_ok h
        have f0 := lim_len (thenE x y_)
        have f0' : (limE (thenE x y_)).length ≤ 1000000 := by omega
        by_cases hn : limN (thenE x y_) = 0
        · obtain ⟨_, f1⟩ := limN_ok (limN_iff hn)
          by_cases g : errX p x = 0
          · obtain ⟨g1, g2, g3⟩ := errX_ok g
            by_cases k : errX (playX p x) y_ = 0
            · obtain ⟨_, _, k3⟩ := errX_ok k
              rw [playX_len] at k3
              have f2 := then_err g1 hx hy g3 k3 (limN_iff hn)
              have f3 := then_play (p := p) hx hy g3 k3
              rw [f1] at f0'
              simp [h, hn, g, k, f1, f2, f3, f0', playX_len]
              omega
            · rw [f1] at f0'
              simp [h, hn, g, k, f1, f0']
          · rw [f1] at f0'
            simp [h, hn, g, f1, f0']
        · simp [h, hn, f0']
      · simp [h]
    · rw [if_pos (by rfl)]; exact ⟨trivial, rfl, trivial⟩
  · rw [if_pos rfl]; exact ⟨rfl, trivial, rfl, trivial⟩
abbrev cPatchMerges : Con := { A := (.cons (.sl tEd) (.cons (.sl tEd) .nil)), R := (.cons .bool .nil), pre := fun x => True, F := fun x => (true, ()) }
def cPatchMerges_0  (x : (List Edt)) (y_ : (List Edt)) (y0 : Bool) : Prop :=
  True ∧ (if (decide (([] : List Lin).length > 100) || decide (x.length > 100)) = true then (true = true ∧ (True ∧ (true = y0 ∧ True))) else (True ∧ (True ∧ (if (bif false then true else (decide (([] : List Lin).length > 100) || decide (y_.length > 100))) = true then (True ∧ (true = y0 ∧ True)) else (True ∧ (True ∧ ((mergeX x y_).length ≤ 1000000 ∧ (if (!(decide ((mergeX x y_) = (mergeX x y_)))) = true then (true = true ∧ (false = y0 ∧ True)) else (True ∧ (if (bif false then true else ((mergeN x y_) != (mergeN x y_))) = true then (false = y0 ∧ True) else (if ((mergeN x y_) != (0 : Int)) = true then (True ∧ (true = y0 ∧ True)) else (True ∧ (True ∧ (True ∧ (if ((mergeN y_ x) == (0 : Int)) = true then ((mergeX y_ x).length ≤ 1000000 ∧ (True ∧ (if (bif true then (decide ((mergeX y_ x) = (mergeX x y_))) else false) = true then (True ∧ (if (bif true then (((if bothX x y_ = 0 then limN (thenE x y_) else bothX x y_)) == (0 : Int)) else false) = true then (((if bothX x y_ = 0 then limE (thenE x y_) else [])).length ≤ 1000000 ∧ (True ∧ (if (bif true then (decide (((if bothX x y_ = 0 then limE (thenE x y_) else [])) = (mergeX x y_))) else false) = true then (True ∧ (if (bif true then (((if bothX y_ x = 0 then limN (thenE y_ x) else bothX y_ x)) == (0 : Int)) else false) = true then (((if bothX y_ x = 0 then limE (thenE y_ x) else [])).length ≤ 1000000 ∧ (True ∧ (if (bif true then (decide (((if bothX y_ x = 0 then limE (thenE y_ x) else [])) = (mergeX x y_))) else false) = true then (True ∧ (True ∧ ((bif true then true else false) = y0 ∧ True))) else (false = false ∧ (false = y0 ∧ True))))) else (false = false ∧ (false = false ∧ (false = y0 ∧ True))))) else (false = false ∧ (false = false ∧ (false = false ∧ (false = y0 ∧ True))))))) else (false = false ∧ (false = false ∧ (false = false ∧ (false = false ∧ (false = y0 ∧ True))))))) else (false = false ∧ (false = false ∧ (false = false ∧ (false = false ∧ (false = false ∧ (false = y0 ∧ True))))))))) else (false = false ∧ (false = false ∧ (false = false ∧ (false = false ∧ (false = false ∧ (false = false ∧ (false = y0 ∧ True))))))))))))))))))))))
theorem cPatchMerges_law (h : ∀ (x : (List Edt)) (y_ : (List Edt)), cPatchMerges.A.wf (x, y_, ()) → cPatchMerges_0  x y_ true) : ConOK Go.Proofs.Tryz.prog 6 cPatchMerges := by
  refine lawL (Γ := [(15, cLong4), (29, cMerge4), (30, cMergeR), (24, cSameR), (16, cSane4), (31, cThen4)]) (Θ := Th) (n := 92) [] ⟨cLong4_ok, cMerge4_ok, cMergeR_ok, cSameR_ok, cSane4_ok, cThen4_ok, trivial⟩ (by kernel_rfl) th_ok mix_ok Go.Proofs.Tryz.func6 (by kernel_rfl) ?_
  intro x hw hp Λ hC
  have h0 := h x.1 x.2.1 hw  
  exact Eq.mpr (by kernel_rfl) h0
theorem cPatchMerges_ok : ConOK Go.Proofs.Tryz.prog 6 cPatchMerges := by
  refine cPatchMerges_law ?_
  intro x y_ hw
  unfold cPatchMerges_0
  refine ⟨trivial, ?_⟩
  have hm := mergeX_len x y_
  have hm' : (mergeX x y_).length ≤ 1000000 := by omega
  cases c : (decide (([] : List Lin).length > 100) || decide (x.length > 100))
  · obtain ⟨_, c2⟩ := long_false c
    rw [if_neg (by simp)]
    refine ⟨trivial, trivial, ?_⟩
    cases d : (decide (([] : List Lin).length > 100) || decide (y_.length > 100))
    · obtain ⟨_, d2⟩ := long_false d
      rw [if_neg (by simp)]
      refine ⟨trivial, trivial, hm', ?_⟩
      by_cases h : mergeN x y_ = 0
      · obtain ⟨hx, hy, hc, h4, f1⟩ := merge_ok h
        have f2 := then_comm hx hy hc
        have f3 := both_of hx hy
        have f4 := both_of hy hx
        obtain ⟨f5, f6⟩ := limN_ok h4
        have f7 : mergeN y_ x = 0 := by unfold mergeN; rw [if_pos f4, clash_comm hx hy, hc, f2]; exact f5
        have f8 : mergeX y_ x = editE (thenE x y_) := by unfold mergeX; rw [if_pos f4, clash_comm hx hy, hc, f2]; exact f6
        rw [f1] at hm'
        simp [h, f1, f2, f3, f4, f5, f6, f7, f8, hm']
      · simp [h]
    · rw [if_pos (by rfl)]; exact ⟨trivial, rfl, trivial⟩
  · rw [if_pos rfl]; exact ⟨rfl, trivial, rfl, trivial⟩
abbrev cPatchKeeps : Con := { A := (.cons (.sl tEd) (.cons (.sl .int) .nil)), R := (.cons .bool .nil), pre := fun x => True, F := fun x => (true, ()) }
def cPatchKeeps_0  (x : (List Edt)) (places : (List Int)) (y0 : Bool) : Prop :=
  True ∧ (if (decide (([] : List Lin).length > 100) || decide (x.length > 100)) = true then (true = true ∧ (True ∧ (true = y0 ∧ True))) else (True ∧ (if (bif false then true else (decide ((List.length places : Int) > (50 : Int)))) = true then (True ∧ (true = y0 ∧ True)) else (True ∧ (True ∧ (True ∧ (True ∧ ((keepX x places).length ≤ 1000000 ∧ (if (!(decide ((keepX x places) = (keepX x places)))) = true then (true = true ∧ (true = true ∧ (true = true ∧ (false = y0 ∧ True)))) else (True ∧ (if (bif false then true else ((keepN x places) != (keepN x places))) = true then (true = true ∧ (true = true ∧ (false = y0 ∧ True))) else (((if validX x = 0 then x.map (·.1) else [])).length ≤ 1000000 ∧ (True ∧ (if (bif false then true else (!(decide (((if validX x = 0 then x.map (·.1) else [])) = ((if validX x = 0 then x.map (·.1) else [])))))) = true then (true = true ∧ (false = y0 ∧ True)) else (True ∧ (if (bif false then true else ((validX x) != (validX x))) = true then (false = y0 ∧ True) else (if ((validX x) != (0 : Int)) = true then (True ∧ (true = y0 ∧ True)) else (True ∧ (if ((keepN x ((if validX x = 0 then x.map (·.1) else []))) == (0 : Int)) = true then ((keepX x ((if validX x = 0 then x.map (·.1) else []))).length ≤ 1000000 ∧ (True ∧ (if (bif true then (decide ((keepX x ((if validX x = 0 then x.map (·.1) else []))) = x)) else false) = true then (True ∧ (True ∧ ((bif true then true else false) = y0 ∧ True))) else (false = false ∧ (false = y0 ∧ True))))) else (false = false ∧ (false = false ∧ (false = y0 ∧ True))))))))))))))))))))))
theorem cPatchKeeps_law (h : ∀ (x : (List Edt)) (places : (List Int)), cPatchKeeps.A.wf (x, places, ()) → cPatchKeeps_0  x places true) : ConOK Go.Proofs.Tryz.prog 11 cPatchKeeps := by
  refine lawL (Γ := [(42, cKeep4), (43, cKeepR), (15, cLong4), (39, cSameInts4), (24, cSameR), (16, cSane4), (45, cTouchR), (44, cTouches)]) (Θ := Th) (n := 84) [] ⟨cKeep4_ok, cKeepR_ok, cLong4_ok, cSameInts4_ok, cSameR_ok, cSane4_ok, cTouchR_ok, cTouches_ok, trivial⟩ (by kernel_rfl) th_ok mix_ok Go.Proofs.Tryz.func11 (by kernel_rfl) ?_
  intro x hw hp Λ hC
  have h0 := h x.1 x.2.1 hw  
  exact Eq.mpr (by kernel_rfl) h0
theorem cPatchKeeps_ok : ConOK Go.Proofs.Tryz.prog 11 cPatchKeeps := by
  refine cPatchKeeps_law ?_
  intro x places hw
  unfold cPatchKeeps_0
  refine ⟨trivial, ?_⟩
  cases c : (decide (([] : List Lin).length > 100) || decide (x.length > 100))
  · obtain ⟨_, c2⟩ := long_false c
    rw [if_neg (by simp)]
    refine ⟨trivial, ?_⟩
    cases d : (decide ((places.length : Int) > (50 : Int)))
    · rw [if_neg (by simp)]
      have hk := keepX_len x places
      refine ⟨trivial, trivial, trivial, trivial, by omega, ?_⟩
      by_cases h : validX x = 0
      · obtain ⟨f1, f2⟩ := keep_all h
        have f3 : x.length ≤ 1000000 := by omega
        simp [h, f1, f2, f3]
      · simp [h]
    · rw [if_pos (by rfl)]; exact ⟨trivial, rfl, trivial⟩
  · rw [if_pos rfl]; exact ⟨rfl, trivial, rfl, trivial⟩
abbrev cPatchThrees : Con := { A := (.cons (.sl tL) (.cons (.sl tL) (.cons (.sl tL) .nil))), R := (.cons .bool .nil), pre := fun x => True, F := fun x => (true, ()) }
def cPatchThrees_0  (base : (List Lin)) (a : (List Lin)) (b : (List Lin)) (y0 : Bool) : Prop :=
  True ∧ (if (decide (base.length > 100) || decide (([] : List Edt).length > 100)) = true then (true = true ∧ (true = true ∧ (True ∧ (true = y0 ∧ True)))) else (True ∧ (True ∧ (if (bif false then true else (decide (a.length > 100) || decide (([] : List Edt).length > 100))) = true then (true = true ∧ (True ∧ (true = y0 ∧ True))) else (True ∧ (True ∧ (if (bif false then true else (decide (b.length > 100) || decide (([] : List Edt).length > 100))) = true then (True ∧ (true = y0 ∧ True)) else (True ∧ (True ∧ (((if threeN base a b = 0 then threeP base a b base.length else [])).length ≤ 1000000 ∧ (if (!(decide (((if threeN base a b = 0 then threeP base a b base.length else [])) = ((if threeN base a b = 0 then threeP base a b base.length else []))))) = true then (true = true ∧ (true = true ∧ (false = y0 ∧ True))) else (((if threeN base a b = 0 then threeI base a b base.length else [])).length ≤ 1000000 ∧ (True ∧ (if (bif false then true else (!(decide (((if threeN base a b = 0 then threeI base a b base.length else [])) = ((if threeN base a b = 0 then threeI base a b base.length else [])))))) = true then (true = true ∧ (false = y0 ∧ True)) else (True ∧ (if (bif false then true else ((threeN base a b) != (threeN base a b))) = true then (false = y0 ∧ True) else (if ((threeN base a b) != (0 : Int)) = true then (True ∧ (true = y0 ∧ True)) else (True ∧ (True ∧ (if ((threeN base b a) == (0 : Int)) = true then (((if threeN base b a = 0 then threeP base b a base.length else [])).length ≤ 1000000 ∧ (True ∧ (if (bif true then (decide (((if threeN base b a = 0 then threeP base b a base.length else [])) = ((if threeN base a b = 0 then threeP base a b base.length else [])))) else false) = true then (((if threeN base b a = 0 then threeI base b a base.length else [])).length ≤ 1000000 ∧ (True ∧ (if (bif true then (decide (((if threeN base b a = 0 then threeI base b a base.length else [])) = ((if threeN base a b = 0 then threeI base a b base.length else [])))) else false) = true then (True ∧ (if (bif true then ((threeN base a base) == (0 : Int)) else false) = true then (((if threeN base a base = 0 then threeP base a base base.length else [])).length ≤ 1000000 ∧ (True ∧ (if (bif true then (decide (((if threeN base a base = 0 then threeP base a base base.length else [])) = a)) else false) = true then (True ∧ (if (bif true then ((List.length ((if threeN base a base = 0 then threeI base a base base.length else [])) : Int) == (0 : Int)) else false) = true then (True ∧ (True ∧ ((bif true then true else false) = y0 ∧ True))) else (false = false ∧ (false = y0 ∧ True)))) else (false = false ∧ (false = false ∧ (false = y0 ∧ True)))))) else (false = false ∧ (false = false ∧ (false = false ∧ (false = y0 ∧ True)))))) else (false = false ∧ (false = false ∧ (false = false ∧ (false = false ∧ (false = y0 ∧ True)))))))) else (false = false ∧ (false = false ∧ (false = false ∧ (false = false ∧ (false = false ∧ (false = y0 ∧ True))))))))) else (false = false ∧ (false = false ∧ (false = false ∧ (false = false ∧ (false = false ∧ (false = false ∧ (false = y0 ∧ True)))))))))))))))))))))))))))
theorem cPatchThrees_law (h : ∀ (base : (List Lin)) (a : (List Lin)) (b : (List Lin)), cPatchThrees.A.wf (base, a, b, ()) → cPatchThrees_0  base a b true) : ConOK Go.Proofs.Tryz.prog 9 cPatchThrees := by
  refine lawL (Γ := [(15, cLong4), (39, cSameInts4), (21, cSameL4), (16, cSane4), (37, cThree), (38, cThreeR)]) (Θ := Th) (n := 109) [] ⟨cLong4_ok, cSameInts4_ok, cSameL4_ok, cSane4_ok, cThree_ok, cThreeR_ok, trivial⟩ (by kernel_rfl) th_ok mix_ok Go.Proofs.Tryz.func9 (by kernel_rfl) ?_
  intro x hw hp Λ hC
  have h0 := h x.1 x.2.1 x.2.2.1 hw  
  exact Eq.mpr (by kernel_rfl) h0
theorem cPatchThrees_ok : ConOK Go.Proofs.Tryz.prog 9 cPatchThrees := by
  refine cPatchThrees_law ?_
  intro base a b hw
  unfold cPatchThrees_0
  refine ⟨trivial, ?_⟩
  cases c : (decide (base.length > 100) || decide (([] : List Edt).length > 100))
  · obtain ⟨c1, _⟩ := long_false c
    rw [if_neg (by simp)]
    refine ⟨trivial, trivial, ?_⟩
    cases d : (decide (a.length > 100) || decide (([] : List Edt).length > 100))
    · rw [if_neg (by simp)]
      refine ⟨trivial, trivial, ?_⟩
      cases e : (decide (b.length > 100) || decide (([] : List Edt).length > 100))
      · rw [if_neg (by simp)]
        by_cases h : threeN base a b = 0
        · obtain ⟨g1, g2, g3, g4, g5⟩ := three_ok h
          have f1 := three_mk g1 g3 g2 g5 g4
          have f2 := three_mk g1 g2 g1 g4 rfl
          have f3 := threeP_comm base a b base.length
          have f4 := threeI_comm base a b base.length
          have f5 := threeP_base g4
          have f6 := threeI_base base a base.length
          have f7 : (threeP base a b base.length).length ≤ 1000000 := by rw [threeP_len]; omega
          have f8 : (threeI base a b base.length).length ≤ 1000000 := by have := threeI_len base a b base.length; omega
          have f9 : a.length ≤ 1000000 := by omega
          simp [h, f1, f2, f3, f4, f5, f6, f7, f8, f9]
        · simp [h]
      · rw [if_pos (by rfl)]; exact ⟨trivial, rfl, trivial⟩
    · rw [if_pos (by rfl)]; exact ⟨rfl, trivial, rfl, trivial⟩
  · rw [if_pos rfl]; exact ⟨rfl, rfl, trivial, rfl, trivial⟩
theorem turned_len (p q : List Lin) (l : List Tst) : (turnedL p q l).length ≤ l.length := by
  rw [turned_where]; exact whereL_len _ _
theorem errT_one {p : List Lin} {l : List Tst} (h1 : validP p = 0) (h2 : validT l = 0) : errT [p] l = 0 := by
  unfold errT firstErr firstErr
  rw [if_pos h1, if_pos rfl]; exact h2
abbrev cPatchFixes : Con := { A := (.cons (.sl tL) (.cons (.sl tEd) (.cons (.sl tTs) .nil))), R := (.cons .bool .nil), pre := fun x => True, F := fun x => (true, ()) }
def cPatchFixes_0  (p : (List Lin)) (x : (List Edt)) (l : (List Tst)) (y0 : Bool) : Prop :=
  True ∧ (if (decide (p.length > 100) || decide (x.length > 100)) = true then (true = true ∧ (True ∧ (true = y0 ∧ True))) else (True ∧ (True ∧ (if (bif false then true else (decide (l.length > 50) || l.any (fun t' => decide (50 < t'.1.length)))) = true then (True ∧ (true = y0 ∧ True)) else (True ∧ (True ∧ (True ∧ (True ∧ (((if errXT p x l = 0 then turnedL p (playX p x) l else [])).length ≤ 1000000 ∧ (if (!(decide (((if errXT p x l = 0 then turnedL p (playX p x) l else [])) = ((if errXT p x l = 0 then turnedL p (playX p x) l else []))))) = true then (true = true ∧ (true = true ∧ (true = true ∧ (false = y0 ∧ True)))) else (True ∧ (if (bif false then true else ((errXT p x l) != (errXT p x l))) = true then (true = true ∧ (true = true ∧ (false = y0 ∧ True))) else (((if errXT p x l = 0 then turnedL (playX p x) p l else [])).length ≤ 1000000 ∧ (True ∧ (if (bif false then true else (!(decide (((if errXT p x l = 0 then turnedL (playX p x) p l else [])) = ((if errXT p x l = 0 then turnedL (playX p x) p l else [])))))) = true then (true = true ∧ (false = y0 ∧ True)) else (True ∧ (if (bif false then true else ((errXT p x l) != (errXT p x l))) = true then (false = y0 ∧ True) else (if ((errXT p x l) != (0 : Int)) = true then (True ∧ (true = y0 ∧ True)) else (True ∧ (True ∧ (True ∧ (if ((errX p x) == (0 : Int)) = true then (True ∧ (if (bif true then ((errT [p] l) == (0 : Int)) else false) = true then (True ∧ (if (bif true then ((errT [((if errX p x = 0 then playX p x else []))] l) == (0 : Int)) else false) = true then (inI ((List.length ((if errT [p] l = 0 then failL p l else [])) : Int) - (List.length ((if errXT p x l = 0 then turnedL p (playX p x) l else [])) : Int)) ∧ (inI (((List.length ((if errT [p] l = 0 then failL p l else [])) : Int) - (List.length ((if errXT p x l = 0 then turnedL p (playX p x) l else [])) : Int)) + (List.length ((if errXT p x l = 0 then turnedL (playX p x) p l else [])) : Int)) ∧ (True ∧ (if (bif true then ((List.length ((if errT [((if errX p x = 0 then playX p x else []))] l = 0 then failL ((if errX p x = 0 then playX p x else [])) l else [])) : Int) == (((List.length ((if errT [p] l = 0 then failL p l else [])) : Int) - (List.length ((if errXT p x l = 0 then turnedL p (playX p x) l else [])) : Int)) + (List.length ((if errXT p x l = 0 then turnedL (playX p x) p l else [])) : Int))) else false) = true then (True ∧ (True ∧ ((bif true then true else false) = y0 ∧ True))) else (false = false ∧ (false = y0 ∧ True)))))) else (false = false ∧ (false = false ∧ (false = y0 ∧ True))))) else (false = false ∧ (false = false ∧ (false = false ∧ (false = y0 ∧ True)))))) else (false = false ∧ (false = false ∧ (false = false ∧ (false = false ∧ (false = y0 ∧ True)))))))))))))))))))))))))))
theorem cPatchFixes_law (h : ∀ (p : (List Lin)) (x : (List Edt)) (l : (List Tst)), cPatchFixes.A.wf (p, x, l, ()) → cPatchFixes_0  p x l true) : ConOK Go.Proofs.Tryz.prog 12 cPatchFixes := by
  refine lawL (Γ := [(48, cBreaks), (49, cBreaksR), (17, cDoE), (50, cFailingO), (46, cFixes), (47, cFixesR), (15, cLong4), (25, cMany4), (39, cSameInts4), (16, cSane4)]) (Θ := Th) (n := 124) [] ⟨cBreaks_ok, cBreaksR_ok, cDoE_ok, cFailingO_ok, cFixes_ok, cFixesR_ok, cLong4_ok, cMany4_ok, cSameInts4_ok, cSane4_ok, trivial⟩ (by kernel_rfl) th_ok mix_ok Go.Proofs.Tryz.func12 (by kernel_rfl) ?_
  intro x hw hp Λ hC
  have h0 := h x.1 x.2.1 x.2.2.1 hw  
  exact Eq.mpr (by kernel_rfl) h0
theorem cPatchFixes_ok : ConOK Go.Proofs.Tryz.prog 12 cPatchFixes := by
  refine cPatchFixes_law ?_
  intro p x l hw
  unfold cPatchFixes_0
  refine ⟨trivial, ?_⟩
  cases c : (decide (p.length > 100) || decide (x.length > 100))
  · rw [if_neg (by simp)]
    refine ⟨trivial, trivial, ?_⟩
    cases d : (decide (l.length > 50) || l.any (fun t' => decide (50 < t'.1.length)))
    · rw [if_neg (by simp)]
      by_cases h : errXT p x l = 0
      · obtain ⟨g1, g2, g3, g4⟩ := errXT_ok h
        have f0 := errXT_X h
        have f1 := errT_one g1 g3
        have f2 := errT_one (errX_play f0) g3
        have f3 := fail_count p (playX p x) l
        have l8 := (validT_ok g3).1
        have l1 := turned_len p (playX p x) l
        have l2 := turned_len (playX p x) p l
        have l3 : (failL p l).length ≤ l.length := whereL_len _ _
        have e1 : (turnedL p (playX p x) l).length ≤ 1000000 := by omega
        have e2 : (turnedL (playX p x) p l).length ≤ 1000000 := by omega
        simp [h, f0, f1, f2, f3, e1, e2]
        unfold inI
        omega
      · simp [h]
    · rw [if_pos (by rfl)]; exact ⟨trivial, rfl, trivial⟩
  · rw [if_pos rfl]; exact ⟨rfl, trivial, rfl, trivial⟩
abbrev cPatchGood : Con := { A := (.cons (.sl tL) (.cons (.sl tEd) (.cons (.sl tTs) .nil))), R := (.cons .bool .nil), pre := fun x => True, F := fun x => (true, ()) }
def cPatchGood_0  (p : (List Lin)) (x : (List Edt)) (l : (List Tst)) (y0 : Bool) : Prop :=
  True ∧ (if (decide (p.length > 100) || decide (x.length > 100)) = true then (true = true ∧ (True ∧ (true = y0 ∧ True))) else (True ∧ (True ∧ (if (bif false then true else (decide (l.length > 50) || l.any (fun t' => decide (50 < t'.1.length)))) = true then (True ∧ (true = y0 ∧ True)) else (True ∧ (True ∧ (True ∧ (True ∧ (if (!(((errXT p x l == 0 && goodX p x l)) == ((errXT p x l == 0 && goodX p x l)))) = true then (true = true ∧ (true = true ∧ (true = true ∧ (false = y0 ∧ True)))) else (True ∧ (if (bif false then true else ((errXT p x l) != (errXT p x l))) = true then (true = true ∧ (true = true ∧ (false = y0 ∧ True))) else (True ∧ (if (bif false then true else (!(((errXT p x l == 0 && minimB p x l)) == ((errXT p x l == 0 && minimB p x l))))) = true then (true = true ∧ (false = y0 ∧ True)) else (True ∧ (if (bif false then true else ((errXT p x l) != (errXT p x l))) = true then (false = y0 ∧ True) else (if (!((errXT p x l == 0 && goodX p x l))) = true then (True ∧ (true = y0 ∧ True)) else (True ∧ (True ∧ (True ∧ (if ((errXT p x l) == (0 : Int)) = true then (True ∧ (if (bif true then ((errXT p x l) == (0 : Int)) else false) = true then (True ∧ (if (bif true then ((errT [p] l) == (0 : Int)) else false) = true then (((if errXT p x l = 0 then turnedL p (playX p x) l else [])).length ≤ 1000000 ∧ (True ∧ (if (bif true then (decide (((if errXT p x l = 0 then turnedL p (playX p x) l else [])) = ((if errT [p] l = 0 then failL p l else [])))) else false) = true then (True ∧ (if (bif true then ((List.length ((if errXT p x l = 0 then turnedL (playX p x) p l else [])) : Int) == (0 : Int)) else false) = true then (True ∧ (True ∧ ((bif true then true else false) = y0 ∧ True))) else (false = false ∧ (false = y0 ∧ True)))) else (false = false ∧ (false = false ∧ (false = y0 ∧ True)))))) else (false = false ∧ (false = false ∧ (false = false ∧ (false = y0 ∧ True)))))) else (false = false ∧ (false = false ∧ (false = false ∧ (false = false ∧ (false = y0 ∧ True))))))) else (false = false ∧ (false = false ∧ (false = false ∧ (false = false ∧ (false = false ∧ (false = y0 ∧ True))))))))))))))))))))))))))
theorem cPatchGood_law (h : ∀ (p : (List Lin)) (x : (List Edt)) (l : (List Tst)), cPatchGood.A.wf (p, x, l, ()) → cPatchGood_0  p x l true) : ConOK Go.Proofs.Tryz.prog 13 cPatchGood := by
  refine lawL (Γ := [(48, cBreaks), (50, cFailingO), (46, cFixes), (51, cIsGood), (52, cIsGoodR), (28, cIsMin), (53, cIsMinR), (15, cLong4), (25, cMany4), (39, cSameInts4), (16, cSane4)]) (Θ := Th) (n := 121) [] ⟨cBreaks_ok, cFailingO_ok, cFixes_ok, cIsGood_ok, cIsGoodR_ok, cIsMin_ok, cIsMinR_ok, cLong4_ok, cMany4_ok, cSameInts4_ok, cSane4_ok, trivial⟩ (by kernel_rfl) th_ok mix_ok Go.Proofs.Tryz.func13 (by kernel_rfl) ?_
  intro x hw hp Λ hC
  have h0 := h x.1 x.2.1 x.2.2.1 hw  
  exact Eq.mpr (by kernel_rfl) h0
theorem cPatchGood_ok : ConOK Go.Proofs.Tryz.prog 13 cPatchGood := by
  refine cPatchGood_law ?_
  intro p x l hw
  unfold cPatchGood_0
  refine ⟨trivial, ?_⟩
  cases c : (decide (p.length > 100) || decide (x.length > 100))
  · rw [if_neg (by simp)]
    refine ⟨trivial, trivial, ?_⟩
    cases d : (decide (l.length > 50) || l.any (fun t' => decide (50 < t'.1.length)))
    · rw [if_neg (by simp)]
      by_cases h : errXT p x l = 0
      · cases g : goodX p x l
        · simp [h, g]
        · obtain ⟨g1, g2, g3, g4⟩ := errXT_ok h
          obtain ⟨f1, f2⟩ := good_fixed g
          have f3 := errT_one g1 g3
          have l8 := (validT_ok g3).1
          have l3 : (failL p l).length ≤ l.length := whereL_len _ _
          have e1 : (failL p l).length ≤ 1000000 := by omega
          simp [h, g, f1, f2, f3, e1]
      · simp [h]
    · rw [if_pos (by rfl)]; exact ⟨trivial, rfl, trivial⟩
  · rw [if_pos rfl]; exact ⟨rfl, trivial, rfl, trivial⟩
abbrev cPatchSmallest : Con := { A := (.cons (.sl tL) (.cons (.sl tEd) (.cons (.sl tTs) .nil))), R := (.cons .bool .nil), pre := fun x => True, F := fun x => (true, ()) }
def cPatchSmallest_0  (p : (List Lin)) (x : (List Edt)) (l : (List Tst)) (y0 : Bool) : Prop :=
  True ∧ (if (decide (p.length > 100) || decide (x.length > 100)) = true then (true = true ∧ (True ∧ (true = y0 ∧ True))) else (True ∧ (True ∧ (if (bif false then true else (decide (l.length > 50) || l.any (fun t' => decide (50 < t'.1.length)))) = true then (True ∧ (true = y0 ∧ True)) else (True ∧ (True ∧ (((if errXT p x l = 0 then smallX p x l else [])).length ≤ 1000000 ∧ (if (!(decide (((if errXT p x l = 0 then smallX p x l else [])) = ((if errXT p x l = 0 then smallX p x l else []))))) = true then (true = true ∧ (true = true ∧ (false = y0 ∧ True))) else (True ∧ (if (bif false then true else (!(((errXT p x l == 0 && smallB p x l)) == ((errXT p x l == 0 && smallB p x l))))) = true then (true = true ∧ (false = y0 ∧ True)) else (True ∧ (if (bif false then true else ((errXT p x l) != (errXT p x l))) = true then (false = y0 ∧ True) else (if (!((errXT p x l == 0 && smallB p x l))) = true then (if ((List.length ((if errXT p x l = 0 then smallX p x l else [])) : Int) == (0 : Int)) = true then (True ∧ (True ∧ ((bif true then true else false) = y0 ∧ True))) else (false = false ∧ (false = y0 ∧ True))) else (True ∧ (if ((errXT p ((if errXT p x l = 0 then smallX p x l else [])) l) == (0 : Int)) = true then (True ∧ (if (bif true then ((errXT p ((if errXT p x l = 0 then smallX p x l else [])) l == 0 && minimB p ((if errXT p x l = 0 then smallX p x l else [])) l)) else false) = true then (True ∧ (True ∧ ((bif true then true else false) = y0 ∧ True))) else (false = false ∧ (false = y0 ∧ True)))) else (false = false ∧ (false = false ∧ (false = y0 ∧ True))))))))))))))))))
theorem cPatchSmallest_law (h : ∀ (p : (List Lin)) (x : (List Edt)) (l : (List Tst)), cPatchSmallest.A.wf (p, x, l, ()) → cPatchSmallest_0  p x l true) : ConOK Go.Proofs.Tryz.prog 5 cPatchSmallest := by
  refine lawL (Γ := [(28, cIsMin), (15, cLong4), (25, cMany4), (24, cSameR), (16, cSane4), (26, cSmallest), (27, cSmallestR)]) (Θ := Th) (n := 76) [] ⟨cIsMin_ok, cLong4_ok, cMany4_ok, cSameR_ok, cSane4_ok, cSmallest_ok, cSmallestR_ok, trivial⟩ (by kernel_rfl) th_ok mix_ok Go.Proofs.Tryz.func5 (by kernel_rfl) ?_
  intro x hw hp Λ hC
  have h0 := h x.1 x.2.1 x.2.2.1 hw  
  exact Eq.mpr (by kernel_rfl) h0
theorem cPatchSmallest_ok : ConOK Go.Proofs.Tryz.prog 5 cPatchSmallest := by
  refine cPatchSmallest_law ?_
  intro p x l hw
  unfold cPatchSmallest_0
  refine ⟨trivial, ?_⟩
  cases c : (decide (p.length > 100) || decide (x.length > 100))
  · obtain ⟨_, c2⟩ := long_false c
    rw [if_neg (by simp)]
    refine ⟨trivial, trivial, ?_⟩
    cases d : (decide (l.length > 50) || l.any (fun t' => decide (50 < t'.1.length)))
    · rw [if_neg (by simp)]
      by_cases h : errXT p x l = 0
      · cases g : smallB p x l
        · have f1 := small_none g
          simp [h, g, f1]
        · obtain ⟨f1, f2, f3⟩ := small_good g
          have f4 := small_minimal g
          have f5 := errXT_sub h f1
          have f6 : (smallX p x l).length ≤ 1000000 := by have := f1.length_le; omega
          simp [h, g, f4, f5, f6]
      · simp [h]
    · rw [if_pos (by rfl)]; exact ⟨trivial, rfl, trivial⟩
  · rw [if_pos rfl]; exact ⟨rfl, trivial, rfl, trivial⟩
end Go.Tk
