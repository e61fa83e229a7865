/- Plain facts of layer 8: the cheapest cover; goals that exclude each other are no more than a cover's rows. No program in sight. -/
import Derived.Test.YtmedjckknalpbaaP8c
set_option linter.unusedSimpArgs false
set_option linter.unusedVariables false
set_option linter.unnecessarySimpa false
namespace Go.Tk
open Go Go.RowKit

def costOf (c s : List Int) : Int := (s.map fun r => c.getD r.toNat 0).sum
def stepC (t : Ste) (c : List Int) (st : List Int × Int) (s : List Int) : List Int × Int := if coverB t s = true ∧ (st.2 < 0 ∨ costOf c s < st.2 ∨ (costOf c s = st.2 ∧ cmpL s st.1 < 0)) then (s, costOf c s) else st
def cheapK (t : Ste) (c : List Int) (k : Nat) : List Int × Int := ((setsL t.length).take k).foldl (stepC t c) ([], -1)
def cheapT (t : Ste) (c : List Int) : List Int × Int := (setsL t.length).foldl (stepC t c) ([], -1)

theorem up_sub : ∀ (n : Nat) (x : List Int), up 0 n x → x.Sublist (nums n)
  | 0, x, h => by
    have : x = [] := by
      cases x with
      | nil => rfl
      | cons r x => have := h.2 r (by simp); omega
    rw [this]; exact List.nil_sublist _
  | n + 1, x, h => by
    rw [nums_succ]
    by_cases hn : ∀ r ∈ x, r < (n : Int)
    · exact (up_sub n x ⟨h.1, fun r hr => ⟨(h.2 r hr).1, hn r hr⟩⟩).trans (List.sublist_append_left _ _)
    · rcases List.eq_nil_or_concat x with rfl | ⟨y, a, rfl⟩
      · exact List.nil_sublist _
      · rw [List.concat_eq_append] at h hn ⊢
        have hp := List.pairwise_append.1 h.1
        have ha := h.2 a (by simp)
        have hy : ∀ r ∈ y, r < a := fun r hr => hp.2.2 r hr a (by simp)
        have han : a = (n : Int) := by
          by_cases e : a = (n : Int)
          · exact e
          · exfalso
            apply hn
            intro r hr
            rcases List.mem_append.1 hr with hr | hr
            · have := hy r hr; omega
            · rw [List.mem_singleton] at hr
              omega
        subst han
        exact (up_sub n y ⟨hp.1, fun r hr => ⟨(h.2 r (by simp [hr])).1, hy r hr⟩⟩).append (List.Sublist.refl _)
theorem up_sets {n : Nat} {x : List Int} : x ∈ setsL n ↔ up 0 n x := by
  unfold setsL
  rw [List.mem_map]
  constructor
  · rintro ⟨b, _, rfl⟩
    refine ⟨?_, fun r hr => ⟨by have := (setOf_mem hr).1; simpa using this, (setOf_mem hr).2⟩⟩
    refine List.Pairwise.sublist (setOf_sub n b) ?_
    unfold nums
    rw [List.pairwise_map]
    exact List.pairwise_lt_range.imp fun h => by simpa using h
  · intro h
    obtain ⟨b, hb, e⟩ := setOf_exists n x (up_sub n x h)
    exact ⟨b, List.mem_range.2 hb, e⟩

theorem costOf_nonneg {c s : List Int} (hc : ∀ x ∈ c, 0 ≤ x) : 0 ≤ costOf c s := by
  unfold costOf
  induction s with
  | nil => simp
  | cons r s ih =>
    have : 0 ≤ c.getD r.toNat 0 := by
      by_cases h : r.toNat < c.length
      · exact hc _ (mem_getD h)
      · rw [List.getD_eq_getElem?_getD, List.getElem?_eq_none (by omega)]; simp
    simp only [List.map_cons, List.sum_cons]
    omega
theorem stepC_spec {t : Ste} {c : List Int} (hc : ∀ x ∈ c, 0 ≤ x) : ∀ (l done : List (List Int)) (st : List Int × Int),
    ((st = ([], -1) ∧ ∀ s ∈ done, coverB t s = false) ∨ (st.1 ∈ done ∧ coverB t st.1 = true ∧ st.2 = costOf c st.1 ∧ ∀ s ∈ done, coverB t s = true → st.2 < costOf c s ∨ (st.2 = costOf c s ∧ cmpL st.1 s ≤ 0))) →
    (((l.foldl (stepC t c) st) = ([], -1) ∧ ∀ s ∈ done ++ l, coverB t s = false) ∨ ((l.foldl (stepC t c) st).1 ∈ done ++ l ∧ coverB t (l.foldl (stepC t c) st).1 = true ∧ (l.foldl (stepC t c) st).2 = costOf c (l.foldl (stepC t c) st).1 ∧ ∀ s ∈ done ++ l, coverB t s = true → (l.foldl (stepC t c) st).2 < costOf c s ∨ ((l.foldl (stepC t c) st).2 = costOf c s ∧ cmpL (l.foldl (stepC t c) st).1 s ≤ 0)))
  | [], done, st, h => by simpa using h
  | s :: l, done, st, h => by
    rw [show done ++ s :: l = (done ++ [s]) ++ l by simp]
    refine stepC_spec hc l (done ++ [s]) (stepC t c st s) ?_
    unfold stepC
    split
    · rename_i hs
      right
      refine ⟨by simp, hs.1, rfl, fun z hz hzc => ?_⟩
      rcases List.mem_append.1 hz with hz | hz
      · rcases h with ⟨_, h⟩ | ⟨_, _, h2, h⟩
        · rw [h z hz] at hzc; cases hzc
        · have hn : 0 ≤ st.2 := by rw [h2]; exact costOf_nonneg hc
          rcases h z hz hzc with q | ⟨q, q'⟩
          · rcases hs.2 with p | p | ⟨p, _⟩
            · omega
            · left; show costOf c s < _; omega
            · left; show costOf c s < _; omega
          · rcases hs.2 with p | p | ⟨p, p'⟩
            · omega
            · left; show costOf c s < _; omega
            · right
              refine ⟨by show costOf c s = _; omega, ?_⟩
              show cmpL s z ≤ 0
              by_cases e : cmpL st.1 z = 0
              · rw [← cmpL_zero e]; omega
              · exact Int.le_of_lt (cmpL_trans p' (by omega))
      · rw [List.mem_singleton] at hz
        subst hz
        right
        exact ⟨rfl, by rw [cmpL_refl]; omega⟩
    · rename_i hs
      rcases h with ⟨rfl, h⟩ | ⟨h0, h1, h2, h⟩
      · left
        refine ⟨rfl, fun z hz => ?_⟩
        rcases List.mem_append.1 hz with hz | hz
        · exact h z hz
        · rw [List.mem_singleton] at hz
          subst hz
          rw [Bool.eq_false_iff]
          intro hzc
          exact hs ⟨hzc, .inl (by decide)⟩
      · right
        refine ⟨by simp [h0], h1, h2, fun z hz hzc => ?_⟩
        rcases List.mem_append.1 hz with hz | hz
        · exact h z hz hzc
        · rw [List.mem_singleton] at hz
          subst hz
          have hn : ¬ (st.2 < 0 ∨ costOf c z < st.2 ∨ (costOf c z = st.2 ∧ cmpL z st.1 < 0)) := fun q => hs ⟨hzc, q⟩
          by_cases e : st.2 = costOf c z
          · right
            refine ⟨e, ?_⟩
            have : ¬ cmpL z st.1 < 0 := fun q => hn (.inr (.inr ⟨e.symm, q⟩))
            rw [cmpL_flip] at this
            omega
          · left
            have : ¬ costOf c z < st.2 := fun q => hn (.inr (.inl q))
            omega
/-- The cheapest cover: it is one, none is cheaper, and of those as cheap it is the first. -/
theorem cheapT_spec {t : Ste} {c : List Int} (hc : ∀ x ∈ c, 0 ≤ x) : up 0 t.length (cheapT t c).1 ∧ coverB t (cheapT t c).1 = true ∧ (cheapT t c).2 = costOf c (cheapT t c).1 ∧ ∀ z, up 0 t.length z → coverB t z = true → (cheapT t c).2 < costOf c z ∨ ((cheapT t c).2 = costOf c z ∧ cmpL (cheapT t c).1 z ≤ 0) := by
  have h := stepC_spec (t := t) hc (setsL t.length) [] ([], -1) (.inl ⟨rfl, by simp⟩)
  rw [List.nil_append] at h
  rcases h with ⟨_, h⟩ | ⟨h0, h1, h2, h⟩
  · have := h (nums t.length) (up_sets.2 (nums_up t))
    rw [all_cover] at this; cases this
  · exact ⟨up_sets.1 h0, h1, h2, fun z hz hzc => h z (up_sets.2 hz) hzc⟩
theorem costOf_ones {n : Nat} {s : List Int} (h : ∀ r ∈ s, 0 ≤ r ∧ r < n) : costOf (List.replicate n 1) s = s.length := by
  unfold costOf
  induction s with
  | nil => rfl
  | cons r s ih =>
    have hr := h r (by simp)
    have e : (List.replicate n (1 : Int)).getD r.toNat 0 = 1 := by
      rw [List.getD_eq_getElem?_getD, List.getElem?_replicate, if_pos (by omega)]; rfl
    simp only [List.map_cons, List.sum_cons, List.length_cons, e, ih fun q hq => h q (by simp [hq])]
    omega
theorem up_in {t : Ste} {x : List Int} (h : up 0 t.length x) : inT t x := fun r hr => ⟨by have := (h.2 r hr).1; simpa using this, (h.2 r hr).2⟩
/-- With all costs 1 the cheapest cover is the smallest one. -/
theorem cheap_ones (t : Ste) : cheapT t (List.replicate t.length 1) = (coverS t, ((coverS t).length : Int)) := by
  have hc : ∀ x ∈ List.replicate t.length (1 : Int), 0 ≤ x := fun x hx => by rw [List.eq_of_mem_replicate hx]; omega
  obtain ⟨a1, a2, a3, a4⟩ := cheapT_spec (t := t) hc
  obtain ⟨b1, b2, b3⟩ := coverS_spec t
  have b1' := up_set.2 b1
  have e1 := costOf_ones (n := t.length) (s := (cheapT t (List.replicate t.length 1)).1) fun r hr => by have := up_in a1 r hr; exact ⟨this.1, this.2⟩
  have e2 := costOf_ones (n := t.length) (s := coverS t) fun r hr => by have := up_in b1' r hr; exact ⟨this.1, this.2⟩
  have h1 := a4 _ b1' b2
  have h2 := b3 _ (up_set.1 a1) a2
  have heq : (cheapT t (List.replicate t.length 1)).1 = coverS t := by
    refine cmpL_zero ?_
    have hf := cmpL_flip (cheapT t (List.replicate t.length 1)).1 (coverS t)
    rw [a3, e1, e2] at h1
    rcases h1 with h1 | ⟨h1, h1'⟩ <;> rcases h2 with h2 | ⟨h2, h2'⟩ <;> omega
  refine Prod.ext heq ?_
  show (cheapT t (List.replicate t.length 1)).2 = _
  rw [a3, e1, heq]

/-! ### Goals that exclude each other -/
theorem count_le {α β : Type} (hit : α → β → Bool) : ∀ (a : List α) (c : List β), (∀ g ∈ c, ∃ r ∈ a, hit r g = true) → (∀ r ∈ a, (c.filter (hit r)).length ≤ 1) → c.length ≤ a.length
  | [], c, h, _ => by
    cases c with
    | nil => simp
    | cons g c => obtain ⟨r, hr, _⟩ := h g (by simp); simp at hr
  | r :: a, c, h, h1 => by
    have hle := count_le hit a (c.filter fun g => !hit r g) (fun g hg => by
      obtain ⟨hg1, hg2⟩ := List.mem_filter.1 hg
      obtain ⟨q, hq, e⟩ := h g hg1
      rcases List.mem_cons.1 hq with rfl | hq
      · rw [e] at hg2; cases hg2
      · exact ⟨q, hq, e⟩) (fun q hq => by
      have := h1 q (by simp [hq])
      refine Nat.le_trans ?_ this
      rw [List.filter_filter]
      exact filt_le fun x _ hx => by
        rw [Bool.and_eq_true] at hx
        exact hx.1)
    have hr := h1 r (by simp)
    have hsplit : c.length = (c.filter (hit r)).length + (c.filter fun g => !hit r g).length := by
      clear hle hr h h1
      induction c with
      | nil => rfl
      | cons g c ih => cases hg : hit r g <;> simp [List.filter_cons, hg] <;> omega
    simp only [List.length_cons]
    omega
theorem sumG_count {r c : List Int} (h : ∀ g ∈ c, r.getD g.toNat 0 = 0 ∨ r.getD g.toNat 0 = 1) : sumG r c = ((c.filter fun g => r.getD g.toNat 0 == 1).length : Int) := by
  unfold sumG
  induction c with
  | nil => rfl
  | cons g c ih =>
    have hg := h g (by simp)
    rw [List.map_cons, List.sum_cons, ih fun q hq => h q (by simp [hq]), List.filter_cons]
    rcases hg with e | e <;> rw [e] <;> simp <;> omega
theorem excl_good (t : Ste) : (∀ g ∈ exclT t, g ∈ openL t) ∧ exclB t (exclT t) = true := by
  rw [← excl_same]
  obtain ⟨h, _⟩ := stepB_spec (goodR t) (setsL (goals8 t)) [] [] (.inl rfl) (fun x hx => by simp at hx)
  rcases h with h | ⟨_, h⟩
  · rw [h]
    refine ⟨by simp, ?_⟩
    unfold exclB sumG
    simp
  · unfold goodR at h
    rw [Bool.and_eq_true, List.all_eq_true] at h
    exact ⟨fun g hg => by simpa using h.1 g hg, h.2⟩
theorem excl_le_cover {t : Ste} (ht : okT t) {a : List Int} (ha : inT t a) (hc : coverB t a = true) : (exclT t).length ≤ a.length := by
  obtain ⟨h1, h2⟩ := excl_good t
  have hm : metL t a = openL t := met_eq (fun r hr => nums_mem.2 (ha r hr)) (by unfold coverB at hc; exact of_decide_eq_true hc)
  refine count_le (fun r g => hits t r g.toNat) a (exclT t) (fun g hg => ?_) fun r hr => ?_
  · have := h1 g hg
    rw [← hm] at this
    unfold metL at this
    obtain ⟨k, hk, e⟩ := List.mem_map.1 this
    obtain ⟨_, hk2⟩ := List.mem_filter.1 hk
    obtain ⟨r, hr, hh⟩ := List.any_eq_true.1 hk2
    refine ⟨r, hr, ?_⟩
    rw [← e]
    exact hh
  · have hr2 := ha r hr
    have hrow : t.getD r.toNat [] ∈ t := mem_getD (by omega)
    have hrl := okT_row ht (i := r.toNat) (by omega)
    unfold exclB at h2
    rw [Bool.not_eq_true', List.any_eq_false] at h2
    have h3 := h2 _ hrow
    rw [sumG_count fun g hg => by
      have := openL_in t g (h1 g hg)
      exact (ht.2.2 _ hrow).2 _ (mem_getD (by omega))] at h3
    have h4 : ((exclT t).filter fun g => (t.getD r.toNat []).getD g.toNat 0 == 1).length ≤ 1 := by
      simp only [decide_eq_true_eq] at h3
      omega
    exact h4

/-! ### The same search with another start -/
def stepS (t : Ste) (c : List Int) (st : List Int × Int) (s : List Int) : List Int × Int := if (costOf c s < st.2 ∨ (costOf c s = st.2 ∧ cmpL s st.1 < 0)) ∧ coverB t s = true then (s, costOf c s) else st
theorem step_same {t : Ste} {c : List Int} (hc : ∀ x ∈ c, 0 ≤ x) {M : Int} {a : List Int} : ∀ (l : List (List Int)) (x y : List Int × Int), (∀ s ∈ l, costOf c s < M) → ((x = ([], -1) ∧ y = (a, M)) ∨ (x = y ∧ 0 ≤ x.2)) →
    ((l.foldl (stepC t c) x = ([], -1) ∧ l.foldl (stepS t c) y = (a, M)) ∨ (l.foldl (stepC t c) x = l.foldl (stepS t c) y ∧ 0 ≤ (l.foldl (stepC t c) x).2))
  | [], _, _, _, h => h
  | s :: l, x, y, hM, h => by
    refine step_same hc l (stepC t c x s) (stepS t c y s) (fun z hz => hM z (by simp [hz])) ?_
    have hn := costOf_nonneg (c := c) (s := s) hc
    have hs := hM s (by simp)
    unfold stepC stepS
    rcases h with ⟨rfl, rfl⟩ | ⟨rfl, h⟩
    · by_cases hcv : coverB t s = true
      · rw [if_pos ⟨hcv, .inl (by decide)⟩, if_pos ⟨.inl hs, hcv⟩]
        exact .inr ⟨rfl, hn⟩
      · rw [if_neg (fun q => hcv q.1), if_neg (fun q => hcv q.2)]
        exact .inl ⟨rfl, rfl⟩
    · right
      by_cases hcv : coverB t s = true
      · by_cases hq : costOf c s < x.2 ∨ (costOf c s = x.2 ∧ cmpL s x.1 < 0)
        · rw [if_pos ⟨hcv, .inr hq⟩, if_pos ⟨hq, hcv⟩]
          exact ⟨rfl, hn⟩
        · rw [if_neg (fun q => q.2.elim (fun z => by omega) hq), if_neg (fun q => hq q.1)]
          exact ⟨rfl, h⟩
      · rw [if_neg (fun q => hcv q.1), if_neg (fun q => hcv q.2)]
        exact ⟨rfl, h⟩
theorem costOf_lt {t : Ste} {c s : List Int} (hl : c.length = t.length) (hc : ∀ x ∈ c, 1 ≤ x ∧ x ≤ 99) (hs : up 0 t.length s) : costOf c s < 99 * (t.length : Int) + 1 := by
  have h1 := sum_bound (l := s) (f := fun r => c.getD r.toNat 0) (a := 0) (b := 99) fun r hr => by
    have := up_in hs r hr
    have := hc _ (mem_getD (d := 0) (l := c) (i := r.toNat) (by omega))
    omega
  have h2 : s.length ≤ t.length := by rcases up_len hs with rfl | h <;> (try simp) ; omega
  have h3 : costOf c s ≤ 99 * s.length := h1.2
  omega
theorem cheap_same {t : Ste} {c : List Int} (hl : c.length = t.length) (hc : ∀ x ∈ c, 1 ≤ x ∧ x ≤ 99) (a : List Int) : (setsL t.length).foldl (stepS t c) (a, 99 * (t.length : Int) + 1) = cheapT t c := by
  have hc0 : ∀ x ∈ c, 0 ≤ x := fun x hx => by have := hc x hx; omega
  have h := step_same (t := t) hc0 (M := 99 * (t.length : Int) + 1) (a := a) (setsL t.length) ([], -1) (a, 99 * (t.length : Int) + 1) (fun s hs => costOf_lt hl hc (up_sets.1 hs)) (.inl ⟨rfl, rfl⟩)
  rcases h with ⟨h, _⟩ | ⟨h, _⟩
  · obtain ⟨_, _, h3, _⟩ := cheapT_spec (t := t) hc0
    have h0 := costOf_nonneg (c := c) (s := (cheapT t c).1) hc0
    have : cheapT t c = ([], -1) := h
    rw [this] at h3 h0
    have h4 : (-1 : Int) = costOf c [] := h3
    have h5 : 0 ≤ costOf c [] := h0
    omega
  · exact h.symm

theorem stepC_len {t : Ste} {c : List Int} : ∀ (l : List (List Int)) (st : List Int × Int) (N : Nat), (∀ s ∈ l, s.length ≤ N) → st.1.length ≤ N → (l.foldl (stepC t c) st).1.length ≤ N
  | [], _, _, _, h => h
  | s :: l, st, N, hl, h => by
    refine stepC_len l (stepC t c st s) N (fun z hz => hl z (by simp [hz])) ?_
    unfold stepC
    split
    · exact hl s (by simp)
    · exact h
theorem setsL_lens (n : Nat) : ∀ s ∈ setsL n, s.length ≤ n := fun s hs => by
  unfold setsL at hs
  obtain ⟨b, _, rfl⟩ := List.mem_map.1 hs
  exact setOf_len n b
theorem cheapK_len (t : Ste) (c : List Int) (k : Nat) : (cheapK t c k).1.length ≤ t.length := by
  unfold cheapK
  exact stepC_len _ _ _ (fun s hs => setsL_lens _ s (List.mem_of_mem_take hs)) (by simp)
theorem cheapK_succ {t : Ste} {c : List Int} {k : Nat} (hk : k < 2 ^ t.length) : cheapK t c (k + 1) = stepC t c (cheapK t c k) (setOf t.length k) := by
  unfold cheapK
  rw [foldl_take [] (stepC t c) _ (by rw [setsL_len]; exact hk), setsL_get hk]
def cheapS (t : Ste) (c : List Int) (k : Nat) : List Int × Int := ((setsL t.length).take k).foldl (stepS t c) (nums t.length, 99 * (t.length : Int) + 1)
theorem cheapS_succ {t : Ste} {c : List Int} {k : Nat} (hk : k < 2 ^ t.length) : cheapS t c (k + 1) = stepS t c (cheapS t c k) (setOf t.length k) := by
  unfold cheapS
  rw [foldl_take [] (stepS t c) _ (by rw [setsL_len]; exact hk), setsL_get hk]

end Go.Tk
