/- Plain facts of layer 8: the smallest cover. No program in sight. -/
import Derived.Test.YtmedjckknalpbaaP8k
import Derived.Test.YtmedjckknalpbaaC8g
set_option linter.unusedSimpArgs false
set_option linter.unusedVariables false
set_option linter.unnecessarySimpa false
namespace Go.Tk
open Go Go.RowKit

def up (f n : Nat) (x : List Int) : Prop := x.Pairwise (· < ·) ∧ ∀ r ∈ x, (f : Int) ≤ r ∧ r < n
theorem up_cons {f n : Nat} {r : Int} {x : List Int} : up f n (r :: x) ↔ ((f : Int) ≤ r ∧ r < n) ∧ up (r.toNat + 1) n x := by
  unfold up
  rw [List.pairwise_cons]
  constructor
  · rintro ⟨⟨h1, h2⟩, h3⟩
    have h4 := h3 r (by simp)
    refine ⟨h4, h2, fun q hq => ⟨?_, (h3 q (by simp [hq])).2⟩⟩
    have := h1 q hq
    omega
  · rintro ⟨h1, h2, h3⟩
    refine ⟨⟨fun q hq => ?_, h2⟩, fun q hq => ?_⟩
    · have := (h3 q hq).1; omega
    · rcases List.mem_cons.1 hq with rfl | hq
      · exact h1
      · have := h3 q hq; omega
theorem up_len : ∀ {x : List Int} {f n : Nat}, up f n x → x = [] ∨ f + x.length ≤ n
  | [], _, _, _ => .inl rfl
  | r :: x, f, n, h => by
    obtain ⟨h1, h2⟩ := up_cons.1 h
    right
    rcases up_len h2 with rfl | h3
    · simp; omega
    · simp; omega
theorem up_set {t : Ste} {x : List Int} : up 0 t.length x ↔ isSet8 x t.length = true := by
  rw [isSet8_pair]
  unfold up
  simp

theorem srch_spec (t : Ste) : ∀ (m : Nat) (l : List Int) (f : Nat),
    (∀ y, srch t m l f = some y → ∃ x, y = (l ++ x, ()) ∧ up f t.length x ∧ x.length = m ∧ coverB t (l ++ x) = true ∧ ∀ z, up f t.length z → z.length = m → coverB t (l ++ z) = true → cmpL x z ≤ 0) ∧
    (srch t m l f = none → ∀ z, up f t.length z → z.length = m → coverB t (l ++ z) = false)
  | 0, l, f => by
    constructor
    · intro y h
      unfold srch at h
      split at h
      · rename_i hc
        cases h
        refine ⟨[], by simp, ⟨by simp, by simp⟩, rfl, by simpa using hc, fun z _ hz _ => ?_⟩
        have : z = [] := List.eq_nil_of_length_eq_zero hz
        subst this
        decide
      · cases h
    · intro h z _ hz
      unfold srch at h
      split at h
      · cases h
      · rename_i hc
        have : z = [] := List.eq_nil_of_length_eq_zero hz
        subst this
        simpa using hc
  | m + 1, l, f => by
    have head : ∀ z : List Int, up f t.length z → z.length = m + 1 → ∃ (q : Nat) (z' : List Int), z = (q : Int) :: z' ∧ f ≤ q ∧ q + (m + 1) ≤ t.length ∧ up (q + 1) t.length z' ∧ z'.length = m := by
      intro z hz hl
      cases z with
      | nil => simp at hl
      | cons r z' =>
        obtain ⟨h1, h2⟩ := up_cons.1 hz
        have hl2 : z'.length = m := by simpa using hl
        refine ⟨r.toNat, z', by congr 1; omega, by omega, ?_, h2, hl2⟩
        rcases up_len h2 with rfl | h3
        · simp at hl2; omega
        · omega
    constructor
    · intro y h
      unfold srch at h
      rw [List.findSome?_eq_some_iff] at h
      obtain ⟨l1, r, l2, e, hr, hl1⟩ := h
      have hlt : r < t.length := by
        have : r ∈ List.range t.length := by rw [e]; simp
        simpa using this
      have hbefore : ∀ q, q < r → q ∈ l1 := by
        intro q hq
        have h1 : l1 = (List.range t.length).take l1.length := by rw [e]; simp
        have h2 : l1.length = r := by
          have h3 : (List.range t.length)[l1.length]? = some r := by rw [e]; simp
          rw [List.getElem?_eq_some_iff] at h3
          obtain ⟨h4, h5⟩ := h3
          simpa using h5
        rw [h1, h2, List.take_range, List.mem_range]
        omega
      split at hr
      · rename_i hc
        obtain ⟨x, rfl, hx1, hx2, hx3, hx4⟩ := (srch_spec t m (l ++ [(r : Int)]) (r + 1)).1 y hr
        refine ⟨(r : Int) :: x, by simp, up_cons.2 ⟨⟨by omega, by omega⟩, by simpa using hx1⟩, by simp [hx2], by simpa using hx3, fun z hz hzl hzc => ?_⟩
        obtain ⟨q, z', rfl, q1, q2, q3, q4⟩ := head z hz hzl
        show (if (r : Int) = (q : Int) then cmpL x z' else cmpI r q) ≤ 0
        by_cases hrq : (r : Int) = (q : Int)
        · rw [if_pos hrq]
          obtain rfl : r = q := by omega
          exact hx4 z' q3 q4 (by simpa using hzc)
        · rw [if_neg hrq]
          by_cases hlt2 : q < r
          · have hn := hl1 q (hbefore q hlt2)
            rw [if_pos ⟨q1, q2⟩] at hn
            have := (srch_spec t m (l ++ [(q : Int)]) (q + 1)).2 hn z' q3 q4
            rw [List.append_assoc] at this
            simp only [List.singleton_append] at this
            rw [hzc] at this
            cases this
          · unfold cmpI
            rw [if_pos (by omega)]
            omega
      · cases hr
    · intro h z hz hzl
      unfold srch at h
      rw [List.findSome?_eq_none_iff] at h
      obtain ⟨q, z', rfl, q1, q2, q3, q4⟩ := head z hz hzl
      have hn := h q (by rw [List.mem_range]; omega)
      rw [if_pos ⟨q1, q2⟩] at hn
      have := (srch_spec t m (l ++ [(q : Int)]) (q + 1)).2 hn z' q3 q4
      rw [List.append_assoc] at this
      simpa using this

theorem all_cover (t : Ste) : coverB t (nums t.length) = true := by
  unfold coverB openL; simp
theorem nums_up (t : Ste) : up 0 t.length (nums t.length) := by
  rw [up_set, isSet8_pair]
  refine ⟨?_, fun r hr => nums_mem.1 hr⟩
  unfold nums
  rw [List.pairwise_map]
  exact List.pairwise_lt_range.imp fun h => by simpa using h

/-- The smallest cover: it is one, none is smaller, and of those as small it is the first. -/
theorem coverS_spec (t : Ste) : isSet8 (coverS t) t.length = true ∧ coverB t (coverS t) = true ∧ ∀ z, isSet8 z t.length = true → coverB t z = true → (coverS t).length < z.length ∨ ((coverS t).length = z.length ∧ cmpL (coverS t) z ≤ 0) := by
  unfold coverS
  cases hF : coverF t (t.length + 1) with
  | none =>
    unfold coverF at hF
    rw [List.findSome?_eq_none_iff] at hF
    have h1 := hF t.length (by simp)
    have := (srch_spec t t.length [] 0).2 h1 (nums t.length) (nums_up t) (nums_len _)
    rw [List.nil_append, all_cover] at this
    cases this
  | some y =>
    unfold coverF at hF
    rw [List.findSome?_eq_some_iff] at hF
    obtain ⟨l1, m, l2, e, hr, hl1⟩ := hF
    obtain ⟨x, rfl, h1, h2, h3, h4⟩ := (srch_spec t m [] 0).1 y hr
    simp only [List.nil_append] at h3 h4 ⊢
    refine ⟨up_set.1 h1, h3, fun z hz hzc => ?_⟩
    have hzu := up_set.2 hz
    have hzn : z.length ≤ t.length := by
      rcases up_len hzu with rfl | h
      · simp
      · omega
    by_cases hlt : z.length < m
    · have h5 : l1.length = m := by
        have h3 : (List.range (t.length + 1))[l1.length]? = some m := by rw [e]; simp
        rw [List.getElem?_eq_some_iff] at h3
        obtain ⟨h4, h5⟩ := h3
        simpa using h5
      have h6 : l1 = (List.range (t.length + 1)).take l1.length := by rw [e]; simp
      have hmem : z.length ∈ l1 := by
        have : m < t.length + 1 := by
          have : m ∈ List.range (t.length + 1) := by rw [e]; simp
          simpa using this
        rw [h6, h5, List.take_range, List.mem_range]
        omega
      have hn := hl1 _ hmem
      have := (srch_spec t z.length [] 0).2 hn z hzu rfl
      rw [List.nil_append, hzc] at this
      cases this
    · by_cases heq : m = z.length
      · right
        exact ⟨by rw [h2, heq], h4 z hzu heq.symm hzc⟩
      · left; omega

/-- An essential row is in every cover. -/
theorem ess_in {t : Ste} {l : List Int} {r : Int} (hl : inT t l) (hc : coverB t l = true) (hr : r ∈ essT t) : r ∈ l := by
  by_cases h : r ∈ l
  · exact h
  · exfalso
    obtain ⟨_, h1⟩ := List.mem_filter.1 hr
    have h2 : (metL t l).length ≤ (metL t (others t r)).length := met_mono fun q hq => List.mem_filter.2 ⟨nums_mem.2 (hl q hq), by
      have : q ≠ r := fun e => h (e ▸ hq)
      simp [this]⟩
    have h3 := met_le_open (t := t) (l := others t r) (nums_filter_in t _)
    unfold coverB at hc h1
    simp at hc h1
    omega

end Go.Tk
