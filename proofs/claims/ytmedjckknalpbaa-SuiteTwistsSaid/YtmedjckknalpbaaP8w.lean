/- Plain facts of layer 8: the document's table of smallest waits. No program in sight. -/
import Derived.Test.YtmedjckknalpbaaP8v
set_option linter.unusedSimpArgs false
set_option linter.unusedVariables false
set_option linter.unnecessarySimpa false
namespace Go.Tk
open Go Go.RowKit

theorem bit_or (m k : Nat) (h : m < 1073741824) (hk : k < 30) : (IntKind.i64.wrap (BitVec.ofInt 64 (m : Int) ||| BitVec.ofInt 64 ((1 : Int) * 2 ^ k)).toNat) = ((m ||| 2 ^ k : Nat) : Int) := by
  have h2 : 2 ^ k < 1073741824 := Nat.pow_lt_pow_right (by omega) (show k < 30 from hk)
  have h3 : m ||| 2 ^ k < 1073741824 := Nat.or_lt_two_pow (n := 30) h h2
  have e : (1 : Int) * 2 ^ k = ((2 ^ k : Nat) : Int) := by rw [Int.one_mul]; simp
  rw [e]
  have : (BitVec.ofInt 64 (m : Int) ||| BitVec.ofInt 64 ((2 ^ k : Nat) : Int)).toNat = m ||| 2 ^ k := by
    generalize 2 ^ k = z at h2
    rw [show BitVec.ofInt 64 (m : Int) = BitVec.ofNat 64 m by simp, show BitVec.ofInt 64 (z : Int) = BitVec.ofNat 64 z by simp]
    rw [BitVec.toNat_or, BitVec.toNat_ofNat, BitVec.toNat_ofNat, Nat.mod_eq_of_lt (show m < 2 ^ 64 by omega), Nat.mod_eq_of_lt (show z < 2 ^ 64 by omega)]
  rw [this]
  exact wrap_in (by unfold inI; omega)

theorem pow_in {k : Nat} (h : k < 30) : inI ((1 : Int) * 2 ^ k) := by
  have h2 : 2 ^ k < 1073741824 := Nat.pow_lt_pow_right (by omega) (show k < 30 from h)
  have e : (1 : Int) * 2 ^ k = ((2 ^ k : Nat) : Int) := by rw [Int.one_mul]; simp
  rw [e]
  generalize 2 ^ k = z at h2
  unfold inI; omega
abbrev lstAt (least : List Int) (s r : Nat) : Int := least.getD (s ||| 2 ^ r) 0
def behT (t : Ste) (s r : Nat) (least : List Int) : Int :=
  if s.testBit r = true then -1 else (((metL t (setOf t.length s ++ [(r : Int)])).length : Int) - ((metL t (setOf t.length s)).length : Int)) * (((setOf t.length s).length : Int) + 1) + least.getD (s ||| 2 ^ r) 0
/-- The table's entry. -/
def lstT (t : Ste) (s : Nat) : Int := ((setOf t.length s).length : Int) * (leftT t (setOf t.length s) : Int) + (bestK t (restL t (setOf t.length s)).length (setOf t.length s)).2
/-- A row's offer, next after a set. -/
def offT (t : Ste) (pre : List Int) (r : Int) : Int := (leftT t pre : Int) + (bestK t (restL t (pre ++ [r])).length (pre ++ [r])).2

theorem setOf_mem_iff {n s : Nat} {r : Int} : r ∈ setOf n s ↔ (0 ≤ r ∧ r < n) ∧ s.testBit r.toNat = true := by
  unfold setOf
  rw [List.mem_filter, nums_mem]
theorem setOf_inT (t : Ste) (s : Nat) : inT t (setOf t.length s) := fun r hr => (setOf_mem_iff.1 hr).1
theorem setOf_nodup (n s : Nat) : (setOf n s).Nodup := (nums_nodup n).sublist List.filter_sublist
theorem left_bound {t : Ste} (h : okT t) (pre : List Int) : leftT t pre ≤ 10 := by
  have h1 : leftT t pre ≤ (openL t).length := by unfold leftT; exact List.length_filter_le ..
  have h2 := openL_len t
  have h3 := h.2.1
  omega
theorem best_bound {t : Ste} (h : okT t) : ∀ (k : Nat) (pre : List Int), (bestK t k pre).2 ≤ 10 * k
  | 0, _ => Int.le_refl _
  | k + 1, pre => by
    unfold bestK
    by_cases hr : (restL t pre).map (fun r => (r :: (bestK t k (pre ++ [r])).1, (leftT t pre : Int) + (bestK t k (pre ++ [r])).2)) = []
    · rw [hr]; show (0 : Int) ≤ _; omega
    · obtain ⟨r, _, e⟩ := List.mem_map.1 (minB_mem hr)
      rw [← e]
      have h1 := best_bound h k (pre ++ [r])
      have h2 := left_bound h pre
      show _ + _ ≤ _
      omega
theorem rest_len_le (t : Ste) (pre : List Int) : (restL t pre).length ≤ t.length := by
  unfold restL
  exact Nat.le_trans (List.length_filter_le ..) (by rw [nums_len]; exact Nat.le_refl _)
theorem lst_bound {t : Ste} (h : okT t) (s : Nat) : 0 ≤ lstT t s ∧ lstT t s ≤ 1000 := by
  have h1 := best_bound h (restL t (setOf t.length s)).length (setOf t.length s)
  have h2 := best_pos t (restL t (setOf t.length s)).length (setOf t.length s)
  have h3 := rest_len_le t (setOf t.length s)
  have h4 := h.1
  have h5 := setOf_len t.length s
  have h6 := left_bound h (setOf t.length s)
  have h7 : (setOf t.length s).length * leftT t (setOf t.length s) ≤ 8 * 10 := Nat.mul_le_mul (by omega) h6
  have h8 : ((setOf t.length s).length : Int) * (leftT t (setOf t.length s) : Int) = (((setOf t.length s).length * leftT t (setOf t.length s) : Nat) : Int) := by simp
  unfold lstT
  rw [h8]
  omega
theorem or_mem {t : Ste} {s r : Nat} (hr : r < t.length) (x : Int) : x ∈ setOf t.length (s ||| 2 ^ r) ↔ x ∈ setOf t.length s ++ [(r : Int)] := by
  rw [List.mem_append, setOf_mem_iff, setOf_mem_iff, List.mem_singleton, Nat.testBit_or, Nat.testBit_two_pow]
  constructor
  · rintro ⟨h1, h2⟩
    rw [Bool.or_eq_true, decide_eq_true_eq] at h2
    rcases h2 with h2 | h2
    · exact .inl ⟨h1, h2⟩
    · exact .inr (by omega)
  · rintro (⟨h1, h2⟩ | rfl)
    · exact ⟨h1, by rw [h2]; rfl⟩
    · exact ⟨by omega, by simp⟩
theorem or_perm {t : Ste} {s r : Nat} (hr : r < t.length) (hs : s.testBit r = false) : (setOf t.length (s ||| 2 ^ r)).Perm (setOf t.length s ++ [(r : Int)]) := by
  refine (List.perm_ext_iff_of_nodup (setOf_nodup _ _) ?_).2 (or_mem hr)
  rw [List.nodup_append]
  refine ⟨setOf_nodup _ _, by simp, ?_⟩
  intro a ha b hb e
  rw [List.mem_singleton] at hb
  subst hb; subst e
  have := (setOf_mem_iff.1 ha).2
  simp [hs] at this
theorem lst_or {t : Ste} {s r : Nat} (hr : r < t.length) (hs : s.testBit r = false) : lstT t (s ||| 2 ^ r) = (((setOf t.length s).length : Int) + 1) * (leftT t (setOf t.length s ++ [(r : Int)]) : Int) + (bestK t (restL t (setOf t.length s ++ [(r : Int)])).length (setOf t.length s ++ [(r : Int)])).2 := by
  unfold lstT
  have h1 := (or_perm hr hs).length_eq
  rw [left_congr (or_mem (s := s) hr), rest_congr (or_mem (s := s) hr), best_congr _ (or_mem (s := s) hr), h1, List.length_append]
  rfl
theorem lin8 (a b k w : Int) : (a - b) * (k + 1) + ((k + 1) * b + w) = k * a + (a + w) := by
  rw [Int.sub_mul, Int.mul_comm b (k + 1), Int.mul_add a k 1, Int.mul_comm a k]
  omega
theorem inT_snoc {t : Ste} {pre : List Int} {r : Nat} (h : inT t pre) (hr : r < t.length) : inT t (pre ++ [(r : Int)]) := by
  intro x hx
  rcases List.mem_append.1 hx with hx | hx
  · exact h x hx
  · rw [List.mem_singleton] at hx; omega
theorem beh_off {t : Ste} {s r : Nat} {least : List Int} (hr : r < t.length) (hs : s.testBit r = false) (hl : least.getD (s ||| 2 ^ r) 0 = lstT t (s ||| 2 ^ r)) : behT t s r least = ((setOf t.length s).length : Int) * (leftT t (setOf t.length s) : Int) + offT t (setOf t.length s) r := by
  unfold behT
  rw [if_neg (by simp [hs]), hl, lst_or hr hs]
  have h1 := left_met (setOf_inT t s)
  have h2 := left_met (inT_snoc (setOf_inT t s) hr)
  have e : ((metL t (setOf t.length s ++ [(r : Int)])).length : Int) - ((metL t (setOf t.length s)).length : Int) = (leftT t (setOf t.length s) : Int) - (leftT t (setOf t.length s ++ [(r : Int)]) : Int) := by omega
  rw [e, lin8]
  rfl
theorem rest_step {t : Ste} {pre : List Int} {k : Nat} (hk : (restL t pre).length = k + 1) : bestK t (k + 1) pre = minB ((restL t pre).map fun r => (r :: (bestK t k (pre ++ [r])).1, offT t pre r)) := by
  show minB _ = _
  congr 1
  refine List.map_congr_left fun r hr => ?_
  have := rest_len hr
  unfold offT
  rw [show (restL t (pre ++ [r])).length = k by omega]
theorem off_le {t : Ste} {pre : List Int} {k : Nat} {r : Int} (hk : (restL t pre).length = k + 1) (hr : r ∈ restL t pre) : (bestK t (k + 1) pre).2 ≤ offT t pre r := by
  rw [rest_step hk]
  exact minB_le (x := (r :: (bestK t k (pre ++ [r])).1, offT t pre r)) (List.mem_map.2 ⟨r, hr, rfl⟩)
theorem minB_split : ∀ (c : List (List Int × Int)), c ≠ [] → ∃ a b, c = a ++ minB c :: b ∧ ∀ y ∈ a, (minB c).2 < y.2
  | [], h => absurd rfl h
  | [x], _ => ⟨[], [], rfl, by simp⟩
  | x :: y :: c, _ => by
    obtain ⟨a, b, e, h⟩ := minB_split (y :: c) (by simp)
    have h1 : minB (x :: y :: c) = stepM x (minB (y :: c)) := fold_min (y :: c) x (by simp)
    rw [h1]
    unfold stepM
    split
    · rename_i g
      refine ⟨x :: a, b, by rw [List.cons_append, ← e], fun z hz => ?_⟩
      rcases List.mem_cons.1 hz with rfl | hz
      · exact g
      · exact h z hz
    · exact ⟨[], y :: c, rfl, by simp⟩
theorem nums_sorted (n : Nat) : (nums n).Pairwise (· < ·) := by
  unfold nums
  refine List.Pairwise.map _ (fun a b h => ?_) List.pairwise_lt_range
  show (a : Int) < b
  omega
/-- The first row with the least offer goes first. -/
theorem first_row {t : Ste} {pre : List Int} {k : Nat} (hk : (restL t pre).length = k + 1) : ∃ r, r ∈ restL t pre ∧ offT t pre r = (bestK t (k + 1) pre).2 ∧ (bestK t (k + 1) pre).1 = r :: (bestK t k (pre ++ [r])).1 ∧ ∀ x ∈ restL t pre, x < r → (bestK t (k + 1) pre).2 < offT t pre x := by
  have hs : (restL t pre).Pairwise (· < ·) := by unfold restL; exact (nums_sorted t.length).sublist List.filter_sublist
  rw [rest_step hk]
  have hne : ((restL t pre).map fun r => (r :: (bestK t k (pre ++ [r])).1, offT t pre r)) ≠ [] := by
    intro e
    rw [List.map_eq_nil_iff] at e
    rw [e] at hk; simp at hk
  obtain ⟨a, b, e, h⟩ := minB_split _ hne
  obtain ⟨a1, b1, e1, e2, e3⟩ := List.map_eq_append_iff.1 e
  obtain ⟨r, b2, e4, e5, e6⟩ := List.map_eq_cons_iff.1 e3
  refine ⟨r, by rw [e1, e4]; simp, by rw [← e5], by rw [← e5], fun x hx hlt => ?_⟩
  rw [e1, e4] at hs hx
  have hxa : x ∈ a1 := by
    rcases List.mem_append.1 hx with hx | hx
    · exact hx
    · exfalso
      rcases List.mem_cons.1 hx with rfl | hx
      · omega
      · have := (List.pairwise_cons.1 (List.pairwise_append.1 hs).2.1).1 x hx
        omega
  have := h (x :: (bestK t k (pre ++ [x])).1, offT t pre x) (by rw [← e2]; exact List.mem_map.2 ⟨x, hxa, rfl⟩)
  exact this
theorem rest_iff {t : Ste} {s : Nat} {r : Nat} (hr : r < t.length) : (r : Int) ∈ restL t (setOf t.length s) ↔ s.testBit r = false := by
  rw [rest_mem, setOf_mem_iff]
  simp [hr]
theorem full_rest {t : Ste} {s : Nat} (hs : s + 1 < 2 ^ t.length) : ∃ r, r < t.length ∧ s.testBit r = false := by
  apply Classical.byContradiction
  intro hn
  have h1 : ∀ r, r < t.length → s.testBit r = true := fun r hr => by
    cases h : s.testBit r
    · exact absurd ⟨r, hr, h⟩ hn
    · rfl
  have h2 : s = 2 ^ t.length - 1 := by
    apply Nat.eq_of_testBit_eq
    intro i
    rw [Nat.testBit_two_pow_sub_one]
    by_cases hi : i < t.length
    · rw [h1 i hi]; simp [hi]
    · rw [Nat.testBit_lt_two_pow (Nat.lt_of_lt_of_le (by omega) (Nat.pow_le_pow_right (by omega) (show t.length ≤ i by omega)))]; simp [hi]
  omega
theorem lst_full (t : Ste) : lstT t (2 ^ t.length - 1) = 0 := by
  have h1 : setOf t.length (2 ^ t.length - 1) = nums t.length := by
    unfold setOf
    rw [List.filter_eq_self]
    intro a ha
    rw [Nat.testBit_two_pow_sub_one]
    have := nums_mem.1 ha
    simp; omega
  have h2 : restL t (nums t.length) = [] := by
    unfold restL
    rw [List.filter_eq_nil_iff]
    intro a ha
    simp [ha]
  have h3 : leftT t (nums t.length) = 0 := by
    unfold leftT
    rw [List.length_eq_zero_iff, List.filter_eq_nil_iff]
    intro g hg
    unfold unmet
    rw [open_hit hg]; simp
  unfold lstT
  rw [h1, h2, h3]
  rfl
theorem or_lt {n s r : Nat} (hs : s < 2 ^ n) (hr : r < n) : s ||| 2 ^ r < 2 ^ n := Nat.or_lt_two_pow hs (Nat.pow_lt_pow_right (by omega) hr)
theorem or_gt {s r : Nat} (h : s.testBit r = false) : s < s ||| 2 ^ r := by
  refine Nat.lt_of_le_of_ne Nat.left_le_or fun e => ?_
  have : (s ||| 2 ^ r).testBit r = true := by rw [Nat.testBit_or, Nat.testBit_two_pow]; simp
  rw [← e, h] at this
  cases this
/-- What the inner loop keeps. -/
def minI (t : Ste) (s r : Nat) (v : Int) : Prop := (v = -1 ∧ ∀ x, x < r → s.testBit x = true) ∨ ∃ x, x < r ∧ s.testBit x = false ∧ v = ((setOf t.length s).length : Int) * (leftT t (setOf t.length s) : Int) + offT t (setOf t.length s) x ∧ ∀ y, y < r → s.testBit y = false → offT t (setOf t.length s) x ≤ offT t (setOf t.length s) y
theorem minI_end {t : Ste} {s : Nat} {v : Int} (hs : s + 1 < 2 ^ t.length) (h : minI t s t.length v) : v = lstT t s := by
  obtain ⟨r0, g1, g2⟩ := full_rest hs
  rcases h with ⟨_, h⟩ | ⟨x, h1, h2, h3, h4⟩
  · rw [h r0 g1] at g2; cases g2
  · obtain ⟨k, hk⟩ : ∃ k, (restL t (setOf t.length s)).length = k + 1 := by
      cases hl : restL t (setOf t.length s) with
      | nil => have := (rest_iff (s := s) g1).2 g2; rw [hl] at this; cases this
      | cons a l => exact ⟨l.length, rfl⟩
    obtain ⟨r, q1, q2, q3, _⟩ := first_row hk
    obtain ⟨q4, q5⟩ := rest_mem.1 q1
    have e : r = (r.toNat : Int) := by omega
    rw [e] at q1 q2
    have q6 := h4 r.toNat (by omega) ((rest_iff (by omega)).1 q1)
    have q7 := off_le hk ((rest_iff (s := s) h1).2 h2)
    rw [h3]
    unfold lstT
    rw [hk]
    omega
theorem off_pos (t : Ste) (pre : List Int) (r : Int) : 0 ≤ offT t pre r := by
  unfold offT
  have := best_pos t (restL t (pre ++ [r])).length (pre ++ [r])
  omega
theorem minI_step {t : Ste} {s r : Nat} {v w : Int} (h : minI t s r v) (hr : s.testBit r = false) (hw : w = ((setOf t.length s).length : Int) * (leftT t (setOf t.length s) : Int) + offT t (setOf t.length s) r) : (v < 0 ∨ w < v → minI t s (r + 1) w) ∧ (¬ (v < 0 ∨ w < v) → minI t s (r + 1) v) := by
  constructor
  · intro hc
    refine .inr ⟨r, by omega, hr, hw, fun y hy hb => ?_⟩
    by_cases e : y = r
    · rw [e]; exact Int.le_refl _
    · rcases h with ⟨_, h⟩ | ⟨x, h1, h2, h3, h4⟩
      · rw [h y (by omega)] at hb; cases hb
      · have := h4 y (by omega) hb
        have h5 := off_pos t (setOf t.length s) x
        have h6 : 0 ≤ ((setOf t.length s).length : Int) * (leftT t (setOf t.length s) : Int) := Int.mul_nonneg (by omega) (by omega)
        generalize ((setOf t.length s).length : Int) * (leftT t (setOf t.length s) : Int) = z at *
        omega
  · intro hc
    rcases h with ⟨h, _⟩ | ⟨x, h1, h2, h3, h4⟩
    · omega
    · refine .inr ⟨x, by omega, h2, h3, fun y hy hb => ?_⟩
      by_cases e : y = r
      · rw [e]
        generalize ((setOf t.length s).length : Int) * (leftT t (setOf t.length s) : Int) = z at *
        omega
      · exact h4 y (by omega) hb
theorem minI_skip {t : Ste} {s r : Nat} {v : Int} (h : minI t s r v) (hr : s.testBit r = true) : minI t s (r + 1) v := by
  rcases h with ⟨h1, h2⟩ | ⟨x, h1, h2, h3, h4⟩
  · refine .inl ⟨h1, fun x hx => ?_⟩
    by_cases e : x = r
    · rw [e]; exact hr
    · exact h2 x (by omega)
  · refine .inr ⟨x, by omega, h2, h3, fun y hy hb => ?_⟩
    by_cases e : y = r
    · rw [e, hr] at hb; cases hb
    · exact h4 y (by omega) hb

def tabT (t : Ste) (m : Nat) (least : List Int) : Prop := least.length = 2 ^ t.length ∧ ∀ j, m ≤ j → j < 2 ^ t.length → least.getD j 0 = lstT t j
theorem tab_start (t : Ste) : tabT t (2 ^ t.length - 1) (List.replicate (2 ^ t.length) 0) := by
  refine ⟨by simp, fun j h1 h2 => ?_⟩
  rw [show j = 2 ^ t.length - 1 by omega, lst_full]
  have : 2 ^ t.length - 1 < 2 ^ t.length := by omega
  simp [List.getD_eq_getElem?_getD, this]
theorem tab_off {t : Ste} {s r : Nat} {least : List Int} (hs : s < 2 ^ t.length) (hr : r < t.length) (hb : s.testBit r = false) (h : ∀ j, s < j → j < 2 ^ t.length → least.getD j 0 = lstT t j) : behT t s r least = ((setOf t.length s).length : Int) * (leftT t (setOf t.length s) : Int) + offT t (setOf t.length s) r :=
  beh_off hr hb (h _ (or_gt hb) (or_lt hs hr))
def outI (t : Ste) (k s : Nat) (out : List Int) : Prop := (∀ x, x ∈ out ↔ x ∈ setOf t.length s) ∧ out.length = k ∧ (setOf t.length s).length = k ∧ (restL t out).length = t.length - k ∧ (bestT t).1 = out ++ (bestK t (t.length - k) out).1
theorem outI_zero (t : Ste) : outI t 0 0 [] := by
  have e : setOf t.length 0 = [] := by
    unfold setOf
    rw [List.filter_eq_nil_iff]
    simp
  refine ⟨fun x => by rw [e], rfl, by rw [e]; rfl, by rw [rest_nil_len]; rfl, rfl⟩
theorem outI_end {t : Ste} {s : Nat} {out : List Int} (h : outI t t.length s out) : out = (bestT t).1 := by
  have := h.2.2.2.2
  rw [Nat.sub_self] at this
  rw [this]
  exact (List.append_nil _).symm
theorem lst_zero (t : Ste) : lstT t 0 = (bestT t).2 := by
  have h := (outI_zero t).1
  have e : setOf t.length 0 = [] := by
    unfold setOf
    rw [List.filter_eq_nil_iff]
    simp
  unfold lstT
  rw [e, rest_nil_len]
  simp [bestT]
theorem beh_neg {t : Ste} {s r : Nat} {least : List Int} (h : s.testBit r = true) : behT t s r least = -1 := by
  unfold behT; rw [if_pos h]
theorem outI_next {t : Ste} {k s : Nat} {out least : List Int} (ht : okT t) (h : outI t k s out) (hk : k < t.length) (hs : s < 2 ^ t.length) (hl : tabT t 0 least) :
    ∃ r, r < t.length ∧ behT t s r least = lstT t s ∧ (∀ x, x < r → behT t s x least ≠ lstT t s) ∧ outI t (k + 1) (s ||| 2 ^ r) (out ++ [(r : Int)]) := by
  obtain ⟨p1, p2, p3, p4, p5⟩ := h
  have e1 : restL t out = restL t (setOf t.length s) := rest_congr p1
  have hk1 : (restL t (setOf t.length s)).length = (t.length - k - 1) + 1 := by rw [← e1, p4]; omega
  obtain ⟨r', q1, q2, q3, q4⟩ := first_row hk1
  obtain ⟨q5, q6⟩ := rest_mem.1 q1
  obtain ⟨r, rfl⟩ : ∃ r : Nat, r' = r := ⟨r'.toNat, by omega⟩
  have hr : r < t.length := by omega
  have hb := (rest_iff hr).1 q1
  have hle : lstT t s = ((setOf t.length s).length : Int) * (leftT t (setOf t.length s) : Int) + (bestK t (t.length - k - 1 + 1) (setOf t.length s)).2 := by
    unfold lstT
    rw [hk1]
  have hoff : ∀ x, x < t.length → s.testBit x = false → behT t s x least = ((setOf t.length s).length : Int) * (leftT t (setOf t.length s) : Int) + offT t (setOf t.length s) x := fun x hx hx2 => tab_off hs hx hx2 fun j _ hj => hl.2 j (Nat.zero_le _) hj
  refine ⟨r, hr, by rw [hoff r hr hb, hle, q2], fun x hx => ?_, fun x => ?_, by simp [p2], ?_, ?_, ?_⟩
  · cases hbx : s.testBit x
    · rw [hoff x (by omega) hbx, hle]
      have := q4 x ((rest_iff (by omega)).2 hbx) (by omega)
      omega
    · rw [beh_neg hbx]
      have := (lst_bound ht s).1
      omega
  · rw [or_mem hr, List.mem_append, List.mem_append, p1]
  · rw [(or_perm hr hb).length_eq, List.length_append, p3]; rfl
  · have := rest_len (t := t) (pre := out) (r := r) (by rw [e1]; exact q1)
    omega
  · rw [p5, best_congr _ p1, show t.length - k = (t.length - k - 1) + 1 by omega, q3, List.append_assoc]
    congr 1
    show _ = (r : Int) :: _
    rw [show t.length - (k + 1) = t.length - k - 1 by omega]
    rw [best_congr (t.length - k - 1) (p := setOf t.length s ++ [(r : Int)]) (q := out ++ [(r : Int)]) (fun x => by rw [List.mem_append, List.mem_append, p1])]
    rfl
end Go.Tk
