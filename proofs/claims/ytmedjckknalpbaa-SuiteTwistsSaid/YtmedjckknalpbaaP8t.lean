/- Plain facts of layer 8: without its needless rows. No program in sight. -/
import Derived.Test.YtmedjckknalpbaaP8e2
set_option linter.unusedSimpArgs false
set_option linter.unusedVariables false
set_option linter.unnecessarySimpa false
namespace Go.Tk
open Go Go.RowKit

def keepT (t : Ste) : List Int := (nums t.length).filter fun r => !decide (r ∈ needT t)
def lessT (t : Ste) : Ste := (keepT t).map fun r => t.getD r.toNat []

theorem keep_mem {t : Ste} {r : Int} : r ∈ keepT t ↔ (0 ≤ r ∧ r < t.length) ∧ ¬ r ∈ needT t := by
  unfold keepT
  rw [List.mem_filter, nums_mem]
  simp
/-- What a row that another one beats is worth. -/
theorem beats_less {t : Ste} {a b : Int} (h : beatsB t a b = true) : (metL t [a]).length > (metL t [b]).length ∨ ((metL t [a]).length = (metL t [b]).length ∧ a < b) := by
  have hs := (beats_sub h).2
  have hle : (metL t [b]).length ≤ (metL t [a]).length := by
    rw [met1_length, met1_length]
    exact filt_le fun g hg hb => hs g (List.mem_range.1 hg) hb
  unfold beatsB at h
  simp only [Bool.and_eq_true, Bool.or_eq_true, decide_eq_true_eq] at h
  rcases h.2 with h | h
  · exact .inl h
  · omega
/-- Each row is within one that is kept. -/
theorem dominated {t : Ste} : ∀ (m : Nat) (r : Int), 0 ≤ r ∧ r < t.length → (goals8 t - (metL t [r]).length) * t.length + r.toNat < m → ∃ k ∈ keepT t, ∀ g, g < goals8 t → hits t r g = true → hits t k g = true
  | 0, _, _, h => by omega
  | m + 1, r, hr, h => by
    by_cases hk : r ∈ needT t
    · obtain ⟨_, h2⟩ := List.mem_filter.1 hk
      obtain ⟨k, hk2, hb⟩ := List.any_eq_true.1 h2
      have hkr := nums_mem.1 hk2
      have hlt := beats_less hb
      have hlk := metL_len t [k]
      have hlr := metL_len t [r]
      have hdec : (goals8 t - (metL t [k]).length) * t.length + k.toNat < m := by
        rcases hlt with q | ⟨q, q'⟩
        · have e : goals8 t - (metL t [r]).length = (goals8 t - (metL t [k]).length) + ((metL t [k]).length - (metL t [r]).length) := by omega
          rw [e, Nat.add_mul] at h
          have : 1 * t.length ≤ ((metL t [k]).length - (metL t [r]).length) * t.length := Nat.mul_le_mul_right _ (by omega)
          omega
        · rw [q]
          omega
      obtain ⟨q, hq, hqs⟩ := dominated m k hkr hdec
      exact ⟨q, hq, fun g hg hh => hqs g hg ((beats_sub hb).2 g hg hh)⟩
    · exact ⟨r, keep_mem.2 ⟨hr, hk⟩, fun g _ h => h⟩
theorem keep_any {t : Ste} {r : Int} (hr : 0 ≤ r ∧ r < t.length) : ∃ k ∈ keepT t, ∀ g, g < goals8 t → hits t r g = true → hits t k g = true := dominated _ r hr (Nat.lt_succ_self _)

theorem less_len (t : Ste) : (lessT t).length = (keepT t).length := by simp [lessT]
theorem less_get {t : Ste} {j : Nat} (hj : j < (keepT t).length) : (lessT t).getD j [] = t.getD ((keepT t).getD j 0).toNat [] := by
  unfold lessT
  simp [List.getD_eq_getElem?_getD, hj]
theorem less_hits {t : Ste} {j : Nat} (hj : j < (keepT t).length) (g : Nat) : hits (lessT t) (j : Int) g = hits t ((keepT t).getD j 0) g := by
  unfold hits
  rw [Int.toNat_natCast, less_get hj]
theorem less_ok {t : Ste} (h : okT t) : okT (lessT t) ∧ goals8 (lessT t) = goals8 t := by
  have hkl : (keepT t).length ≤ t.length := filt_nums_len _ _
  have hg : goals8 (lessT t) = goals8 t := by
    by_cases h0 : t.length = 0
    · have e : t = [] := List.eq_nil_of_length_eq_zero h0
      subst e
      have : lessT [] = [] := by
        have := less_len []
        exact List.eq_nil_of_length_eq_zero (by simp at hkl; rw [this, hkl]; rfl)
      rw [this]
    · obtain ⟨k, hk, _⟩ := keep_any (t := t) (r := 0) ⟨by omega, by omega⟩
      have hpos : 0 < (keepT t).length := List.length_pos_of_mem hk
      unfold goals8
      rw [less_get hpos]
      have hm := keep_mem.1 (mem_getD (d := 0) hpos)
      exact okT_row h (i := ((keepT t).getD 0 0).toNat) (by omega)
  refine ⟨⟨by rw [less_len]; have := h.1; omega, by rw [hg]; exact h.2.1, fun r hr => ?_⟩, hg⟩
  rw [hg]
  unfold lessT at hr
  obtain ⟨k, hk, rfl⟩ := List.mem_map.1 hr
  have hm := (keep_mem.1 hk).1
  exact h.2.2 _ (mem_getD (by omega))

theorem less_open {t : Ste} (h : okT t) : openL (lessT t) = openL t := by
  have hg := (less_ok h).2
  unfold openL metL
  rw [hg]
  congr 1
  refine filt_congr fun g hgr => ?_
  rw [List.mem_range] at hgr
  rw [Bool.eq_iff_iff, List.any_eq_true, List.any_eq_true]
  constructor
  · rintro ⟨j, hj, e⟩
    have hj2 := nums_mem.1 hj
    rw [less_len] at hj2
    have hjn : (j.toNat : Int) = j := by omega
    rw [← hjn, less_hits (by omega)] at e
    exact ⟨_, nums_mem.2 (keep_mem.1 (mem_getD (by omega))).1, e⟩
  · rintro ⟨r, hr, e⟩
    obtain ⟨k, hk, hs⟩ := keep_any (t := t) (nums_mem.1 hr)
    obtain ⟨j, hj, ej⟩ := List.mem_iff_getElem.1 hk
    refine ⟨(j : Int), nums_mem.2 ⟨by omega, by rw [less_len]; omega⟩, ?_⟩
    rw [less_hits hj]
    have : (keepT t).getD j 0 = k := by rw [List.getD_eq_getElem?_getD, List.getElem?_eq_getElem hj]; exact ej
    rw [this]
    exact hs g hgr e

theorem keep_pair (t : Ste) : (keepT t).Pairwise (· < ·) := by
  refine List.Pairwise.sublist (List.filter_sublist (l := nums t.length)) ?_
  exact (nums_up t).1
theorem one_of {z : List Int} (hz : z.Pairwise (· < ·)) (x : Int) : (z.filter fun j => x == j).length ≤ 1 := by
  have h1 : (z.filter fun j => x == j).Pairwise (· < ·) := hz.sublist List.filter_sublist
  have h2 : ∀ y ∈ z.filter (fun j => x == j), x = y := fun y hy => eq_of_beq (List.mem_filter.1 hy).2
  generalize z.filter (fun j => x == j) = l at h1 h2
  match l, h1, h2 with
  | [], _, _ => simp
  | [_], _, _ => simp
  | a :: b :: l, h1, h2 =>
    have e1 := h2 a (by simp)
    have e2 := h2 b (by simp)
    have := (List.pairwise_cons.1 h1).1 b (by simp)
    omega
/-- The smallest cover is as small. -/
theorem less_cover {t : Ste} (h : okT t) : (coverS (lessT t)).length = (coverS t).length := by
  obtain ⟨hok, hg⟩ := less_ok h
  have hop := less_open h
  obtain ⟨s1, s2, s3⟩ := coverS_spec t
  obtain ⟨r1, r2, r3⟩ := coverS_spec (lessT t)
  have up : (coverS t).length ≤ (coverS (lessT t)).length := by
    obtain ⟨q1, q2⟩ := isSet8_pair.1 r1
    rw [less_len] at q2
    generalize coverS (lessT t) = z at r2 q1 q2 ⊢
    have hset : isSet8 (z.map fun j => (keepT t).getD j.toNat 0) t.length = true := by
      rw [isSet8_pair]
      constructor
      · rw [List.pairwise_map]
        refine List.Pairwise.imp_of_mem (fun {a b} ha hb hab => ?_) q1
        have ha2 := q2 a ha
        have hb2 := q2 b hb
        have := (List.pairwise_iff_getElem.1 (keep_pair t)) a.toNat b.toNat (by omega) (by omega) (by omega)
        simpa [List.getD_eq_getElem?_getD, show a.toNat < (keepT t).length by omega, show b.toNat < (keepT t).length by omega] using this
      · intro r hr
        obtain ⟨j, hj, rfl⟩ := List.mem_map.1 hr
        have hj2 := q2 j hj
        exact (keep_mem.1 (mem_getD (by omega))).1
    have hcov : coverB t (z.map fun j => (keepT t).getD j.toNat 0) = true := by
      unfold coverB at r2 ⊢
      rw [decide_eq_true_eq] at r2 ⊢
      rw [hop] at r2
      rw [← r2, metL_length, metL_length, hg]
      congr 1
      refine filt_congr fun g hgr => ?_
      rw [List.any_map, Bool.eq_iff_iff, List.any_eq_true, List.any_eq_true]
      constructor
      · rintro ⟨j, hj, e⟩
        refine ⟨j, hj, ?_⟩
        have hj2 := q2 j hj
        have := less_hits (t := t) (j := j.toNat) (by omega) g
        rw [show ((j.toNat : Nat) : Int) = j by omega] at this
        rw [this]; exact e
      · rintro ⟨j, hj, e⟩
        refine ⟨j, hj, ?_⟩
        have hj2 := q2 j hj
        have := less_hits (t := t) (j := j.toNat) (by omega) g
        rw [show ((j.toNat : Nat) : Int) = j by omega] at this
        rw [this] at e; exact e
    rcases s3 _ hset hcov with q | ⟨q, _⟩
    · rw [List.length_map] at q; omega
    · rw [List.length_map] at q; omega
  have down : (coverS (lessT t)).length ≤ (coverS t).length := by
    have hin := isSet8_in s1
    generalize coverS t = a at s2 hin ⊢
    have hd : ∀ r : Int, ∃ j : Int, (0 ≤ r ∧ r < t.length) → (0 ≤ j ∧ j < (keepT t).length) ∧ ∀ g, g < goals8 t → hits t r g = true → hits (lessT t) j g = true := by
      intro r
      by_cases hr : 0 ≤ r ∧ r < t.length
      · obtain ⟨k, hk, hs⟩ := keep_any (t := t) hr
        obtain ⟨j, hj, ej⟩ := List.mem_iff_getElem.1 hk
        refine ⟨(j : Int), fun _ => ⟨⟨by omega, by omega⟩, fun g hgr e => ?_⟩⟩
        rw [less_hits hj]
        have : (keepT t).getD j 0 = k := by rw [List.getD_eq_getElem?_getD, List.getElem?_eq_getElem hj]; exact ej
        rw [this]
        exact hs g hgr e
      · exact ⟨0, fun q => absurd q hr⟩
    obtain ⟨d, hd⟩ := Classical.axiomOfChoice hd
    have hzp : ((nums (lessT t).length).filter fun j => a.any fun r => d r == j).Pairwise (· < ·) := (nums_up (lessT t)).1.sublist List.filter_sublist
    have hset : isSet8 ((nums (lessT t).length).filter fun j => a.any fun r => d r == j) (lessT t).length = true := isSet8_pair.2 ⟨hzp, fun r hr => nums_mem.1 (List.mem_filter.1 hr).1⟩
    have hle : ((nums (lessT t).length).filter fun j => a.any fun r => d r == j).length ≤ a.length := by
      refine count_le (fun r j => d r == j) a _ (fun j hj => ?_) fun r _ => one_of hzp (d r)
      obtain ⟨r, hr, e⟩ := List.any_eq_true.1 (List.mem_filter.1 hj).2
      exact ⟨r, hr, e⟩
    have hcov : coverB (lessT t) ((nums (lessT t).length).filter fun j => a.any fun r => d r == j) = true := by
      have hm : metL t a = openL t := met_eq (fun r hr => nums_mem.2 (hin r hr)) (by unfold coverB at s2; exact of_decide_eq_true s2)
      unfold coverB
      rw [decide_eq_true_eq, hop, ← hm, metL_length, metL_length, hg]
      refine Nat.le_antisymm ?_ ?_
      · have h1 := met_le_open (t := lessT t) (l := (nums (lessT t).length).filter fun j => a.any fun r => d r == j) (fun r hr => nums_mem.1 (List.mem_filter.1 hr).1)
        rw [hop, ← hm, metL_length, metL_length, hg] at h1
        exact h1
      · refine filt_le fun g hgr hh => ?_
        rw [List.mem_range] at hgr
        obtain ⟨r, hr, e⟩ := List.any_eq_true.1 hh
        obtain ⟨q1, q2⟩ := hd r (hin r hr)
        refine List.any_eq_true.2 ⟨d r, List.mem_filter.2 ⟨nums_mem.2 ⟨q1.1, by rw [less_len]; exact q1.2⟩, List.any_eq_true.2 ⟨r, hr, by simp⟩⟩, q2 g hgr e⟩
    rcases r3 _ hset hcov with q | ⟨q, _⟩
    · omega
    · omega
  omega

end Go.Tk
