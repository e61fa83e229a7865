/- Plain facts of layer 8: rows in another order. No program in sight. -/
import Derived.Test.YtmedjckknalpbaaP8y
import Derived.Test.YtmedjckknalpbaaP8u
set_option linter.unusedSimpArgs false
set_option linter.unusedVariables false
set_option linter.unnecessarySimpa false
namespace Go.Tk
open Go Go.RowKit

def twistT (t : Ste) (o : List Int) : Ste := o.map fun r => t.getD r.toNat []
theorem tw_len (t : Ste) (o : List Int) : (twistT t o).length = o.length := by simp [twistT]
theorem tw_get {t : Ste} {o : List Int} {i : Nat} (hi : i < o.length) : (twistT t o).getD i [] = t.getD (o.getD i 0).toNat [] := by
  unfold twistT
  simp [List.getD_eq_getElem?_getD, hi]
theorem tw_hits {t : Ste} {o : List Int} {i : Nat} (hi : i < o.length) (g : Nat) : hits (twistT t o) i g = hits t (o.getD i 0) g := by
  unfold hits
  rw [Int.toNat_natCast, tw_get hi]
theorem perm_in {o : List Int} {n : Nat} (h : o.Perm (nums n)) {i : Nat} (hi : i < o.length) : 0 ≤ o.getD i 0 ∧ o.getD i 0 < n := nums_mem.1 (h.mem_iff.1 (mem_getD hi))
theorem tw_goals {t : Ste} {o : List Int} (ht : okT t) (h : o.Perm (nums t.length)) : goals8 (twistT t o) = goals8 t := by
  have hl := h.length_eq
  rw [nums_len] at hl
  by_cases h0 : 0 < o.length
  · show ((twistT t o).getD 0 []).length = _
    rw [tw_get h0]
    have := perm_in h h0
    exact okT_row ht (by omega)
  · have e1 : o = [] := List.length_eq_zero_iff.1 (by omega)
    have e2 : t = [] := List.length_eq_zero_iff.1 (by omega)
    subst e1; subst e2
    rfl
theorem tw_ok {t : Ste} {o : List Int} (ht : okT t) (h : o.Perm (nums t.length)) : okT (twistT t o) := by
  have hl := h.length_eq
  rw [nums_len] at hl
  refine ⟨by rw [tw_len, hl]; exact ht.1, by rw [tw_goals ht h]; exact ht.2.1, ?_⟩
  intro r hr
  rw [tw_goals ht h]
  unfold twistT at hr
  obtain ⟨x, hx, rfl⟩ := List.mem_map.1 hr
  have := nums_mem.1 (h.mem_iff.1 hx)
  exact ht.2.2 _ (mem_getD (by omega))
theorem tw_any {t : Ste} {o : List Int} (h : o.Perm (nums t.length)) (g : Nat) : ((nums (twistT t o).length).any fun r => hits (twistT t o) r g) = (nums t.length).any fun r => hits t r g := by
  have hl := h.length_eq
  rw [nums_len] at hl
  rw [Bool.eq_iff_iff, List.any_eq_true, List.any_eq_true]
  constructor
  · rintro ⟨r, hr, e⟩
    have h1 := nums_mem.1 hr
    rw [tw_len] at h1
    rw [show r = ((r.toNat : Nat) : Int) by omega, tw_hits (by omega)] at e
    exact ⟨_, h.mem_iff.1 (mem_getD (by omega)), e⟩
  · rintro ⟨r, hr, e⟩
    obtain ⟨i, hi, ei⟩ := List.mem_iff_getElem.1 (h.mem_iff.2 hr)
    refine ⟨(i : Int), nums_mem.2 (by rw [tw_len]; omega), ?_⟩
    rw [tw_hits hi, show o.getD i 0 = r by rw [List.getD_eq_getElem?_getD, List.getElem?_eq_getElem hi]; exact ei]
    exact e
theorem tw_open {t : Ste} {o : List Int} (ht : okT t) (h : o.Perm (nums t.length)) : openL (twistT t o) = openL t := by
  unfold openL metL
  rw [tw_goals ht h]
  congr 1
  exact filt_congr fun g _ => tw_any h g
theorem nodup_sub_len {α : Type} [BEq α] [LawfulBEq α] : ∀ (l m : List α), l.Nodup → (∀ x ∈ l, x ∈ m) → l.length ≤ m.length
  | [], m, _, _ => Nat.zero_le _
  | a :: l, m, hn, hs => by
    obtain ⟨h1, h2⟩ := List.nodup_cons.1 hn
    have ha := hs a (by simp)
    have := nodup_sub_len l (m.erase a) h2 fun x hx => (List.mem_erase_of_ne (show x ≠ a from fun e => h1 (by rw [← e]; exact hx))).2 (hs x (by simp [hx]))
    rw [List.length_erase_of_mem ha] at this
    have := List.length_pos_of_mem ha
    simp only [List.length_cons]
    omega
theorem tw_cover_le {t : Ste} {o : List Int} (ht : okT t) (h : o.Perm (nums t.length)) : (coverS t).length ≤ (coverS (twistT t o)).length := by
  have hl := h.length_eq
  rw [nums_len] at hl
  obtain ⟨s1, s2, s3⟩ := coverS_spec t
  obtain ⟨r1, r2, r3⟩ := coverS_spec (twistT t o)
  have hin := isSet8_in r1
  obtain ⟨z, hz⟩ : ∃ z, z = (nums t.length).filter fun r => decide (r ∈ (coverS (twistT t o)).map fun j => o.getD j.toNat 0) := ⟨_, rfl⟩
  have hset : isSet8 z t.length = true := by
    rw [isSet8_pair, hz]
    exact ⟨(nums_sorted _).sublist List.filter_sublist, fun r hr => nums_mem.1 (List.mem_filter.1 hr).1⟩
  have hcov : coverB t z = true := by
    rw [cover_iff (isSet8_in hset)]
    intro g hg ⟨r, hr, e⟩
    obtain ⟨i, hi, ei⟩ := List.mem_iff_getElem.1 (h.mem_iff.2 hr)
    have e2 : hits (twistT t o) (i : Int) g = true := by
      rw [tw_hits hi, show o.getD i 0 = r by rw [List.getD_eq_getElem?_getD, List.getElem?_eq_getElem hi]; exact ei]
      exact e
    obtain ⟨j, hj, e3⟩ := (cover_iff hin).1 r2 g (by rw [tw_goals ht h]; exact hg) ⟨(i : Int), nums_mem.2 (by rw [tw_len]; omega), e2⟩
    have hj2 := hin j hj
    rw [tw_len] at hj2
    rw [show j = ((j.toNat : Nat) : Int) by omega, tw_hits (by omega)] at e3
    refine ⟨o.getD j.toNat 0, ?_, e3⟩
    rw [hz, List.mem_filter]
    exact ⟨h.mem_iff.1 (mem_getD (by omega)), by simp only [decide_eq_true_eq]; exact List.mem_map.2 ⟨j, hj, rfl⟩⟩
  have hle : z.length ≤ (coverS (twistT t o)).length := by
    have := nodup_sub_len z ((coverS (twistT t o)).map fun j => o.getD j.toNat 0) (by rw [hz]; exact (nums_nodup _).sublist List.filter_sublist) (fun x hx => by rw [hz, List.mem_filter] at hx; simpa using hx.2)
    rwa [List.length_map] at this
  rcases s3 z hset hcov with q | q
  · omega
  · have := q.1; omega
theorem idx_map {α β : Type} (p : β → Bool) (f : α → β) (l : List α) : idxF p (l.map f) = idxF (fun x => p (f x)) l := by
  unfold idxF
  rw [List.findIdx?_map]
  rfl
theorem nums_map {o : List Int} : (nums o.length).map (fun j => o.getD j.toNat 0) = o := by
  apply List.ext_getElem?
  intro i
  rw [List.getElem?_map]
  unfold nums
  rw [List.getElem?_map]
  by_cases hi : i < o.length
  · simp [hi, List.getD_eq_getElem?_getD]
  · simp [hi]
theorem tw_wait {t : Ste} {o o' : List Int} (ht : okT t) (h : o.Perm (nums t.length)) (h' : o'.Perm (nums t.length)) : waitL (twistT t o) o' = waitL t (o'.map fun j => o.getD j.toNat 0) ∧ (o'.map fun j => o.getD j.toNat 0).Perm (nums t.length) := by
  have hl := h.length_eq
  rw [nums_len] at hl
  constructor
  · unfold waitL
    rw [tw_open ht h]
    congr 1
    refine List.map_congr_left fun g _ => ?_
    unfold waitG
    rw [idx_map]
    congr 1
    unfold idxF
    have : o'.findIdx? (fun r => hits (twistT t o) r g.toNat) = o'.findIdx? (fun x => hits t (o.getD x.toNat 0) g.toNat) := by
      have : ∀ l : List Int, (∀ x ∈ l, 0 ≤ x ∧ x < t.length) → l.findIdx? (fun r => hits (twistT t o) r g.toNat) = l.findIdx? (fun x => hits t (o.getD x.toNat 0) g.toNat) := by
        intro l
        induction l with
        | nil => intro _; rfl
        | cons a l ih =>
          intro hx
          have ha := hx a (by simp)
          have e : hits (twistT t o) a g.toNat = hits t (o.getD a.toNat 0) g.toNat := by
            have := tw_hits (t := t) (o := o) (i := a.toNat) (by omega) g.toNat
            rwa [show ((a.toNat : Nat) : Int) = a by omega] at this
          rw [List.findIdx?_cons, List.findIdx?_cons, e, ih fun x hx' => hx x (by simp [hx'])]
      exact this o' fun x hx => nums_mem.1 (h'.mem_iff.1 hx)
    rw [this]
  · refine ((h'.map fun j => o.getD j.toNat 0).trans ?_).trans h
    rw [← hl, nums_map]
theorem tw_best_le {t : Ste} {o : List Int} (ht : okT t) (h : o.Perm (nums t.length)) : (bestT t).2 ≤ (bestT (twistT t o)).2 := by
  have hl := h.length_eq
  rw [nums_len] at hl
  have h' := bestT_perm (twistT t o)
  rw [tw_len, hl] at h'
  obtain ⟨e1, e2⟩ := tw_wait ht h h'
  rw [bestT_wait (twistT t o), e1]
  exact bestT_least e2
/-- The way back. -/
def backT (o : List Int) : List Int := (nums o.length).map fun r => (o.idxOf r : Int)
theorem back_perm {o : List Int} {n : Nat} (h : o.Perm (nums n)) : (backT o).Perm (nums n) := by
  have hl := h.length_eq
  rw [nums_len] at hl
  have hn : o.Nodup := h.nodup_iff.2 (nums_nodup n)
  refine perm_of_sub _ _ (nums_nodup n) (fun x hx => ?_) (by simp [backT, nums_len, hl])
  have h1 := nums_mem.1 hx
  have hi : x.toNat < o.length := by omega
  refine List.mem_map.2 ⟨o.getD x.toNat 0, ?_, ?_⟩
  · rw [hl]; exact h.mem_iff.1 (mem_getD hi)
  · rw [List.getD_eq_getElem?_getD, List.getElem?_eq_getElem hi, Option.getD_some, hn.idxOf_getElem x.toNat hi]
    omega
theorem back_twist {t : Ste} {o : List Int} (h : o.Perm (nums t.length)) : twistT (twistT t o) (backT o) = t := by
  have hl := h.length_eq
  rw [nums_len] at hl
  apply List.ext_getElem?
  intro i
  by_cases hi : i < t.length
  · have hm : (i : Int) ∈ o := h.mem_iff.2 (nums_mem.2 ⟨by omega, by omega⟩)
    have hlt : o.idxOf (i : Int) < o.length := List.idxOf_lt_length_of_mem hm
    have e1 : (backT o)[i]? = some (o.idxOf (i : Int) : Int) := by
      unfold backT nums
      simp [hl, hi]
    show (List.map _ (backT o))[i]? = _
    rw [List.getElem?_map, e1, Option.map_some, Int.toNat_natCast, tw_get hlt]
    have e2 : o.getD (o.idxOf (i : Int)) 0 = (i : Int) := by
      rw [List.getD_eq_getElem?_getD, List.getElem?_eq_getElem hlt, Option.getD_some]
      exact List.getElem_idxOf hlt
    rw [e2, Int.toNat_natCast, List.getD_eq_getElem?_getD, List.getElem?_eq_getElem hi]
    rfl
  · rw [List.getElem?_eq_none (by rw [tw_len]; simp [backT, nums_len]; omega), List.getElem?_eq_none (by omega)]
theorem tw_same {t : Ste} {o : List Int} (ht : okT t) (h : o.Perm (nums t.length)) : (coverS (twistT t o)).length = (coverS t).length ∧ (bestT (twistT t o)).2 = (bestT t).2 := by
  have hl := h.length_eq
  rw [nums_len] at hl
  have hb := back_perm h
  have hb2 : (backT o).Perm (nums (twistT t o).length) := by rw [tw_len, hl]; exact hb
  have c1 := tw_cover_le ht h
  have c2 := tw_cover_le (tw_ok ht h) hb2
  have b1 := tw_best_le ht h
  have b2 := tw_best_le (tw_ok ht h) hb2
  rw [back_twist h] at c2 b2
  exact ⟨by omega, by omega⟩
end Go.Tk
