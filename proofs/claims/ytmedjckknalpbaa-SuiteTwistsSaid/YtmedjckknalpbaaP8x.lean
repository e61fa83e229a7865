/- Plain facts of layer 8: the best of many sets does not hang on the order in which they are tried. No program in sight. -/
import Derived.Test.YtmedjckknalpbaaP8i
set_option linter.unusedSimpArgs false
set_option linter.unusedVariables false
set_option linter.unnecessarySimpa false
namespace Go.Tk
open Go Go.RowKit

theorem cmpL_refl : ∀ a : List Int, cmpL a a = 0
  | [] => rfl
  | x :: a => by
    show (if x = x then cmpL a a else _) = 0
    rw [if_pos rfl, cmpL_refl a]
theorem cmpL_flip : ∀ a b : List Int, cmpL b a = - cmpL a b
  | [], [] => rfl
  | [], _ :: _ => rfl
  | _ :: _, [] => rfl
  | x :: a, y :: b => by
    show (if y = x then cmpL b a else cmpI y x) = -(if x = y then cmpL a b else cmpI x y)
    by_cases h : x = y
    · rw [if_pos h, if_pos h.symm, cmpL_flip a b]
    · rw [if_neg h, if_neg (fun e => h e.symm)]
      unfold cmpI
      split <;> split <;> (try split) <;> omega
theorem cmpL_zero : ∀ {a b : List Int}, cmpL a b = 0 → a = b
  | [], [], _ => rfl
  | [], _ :: _, h => by cases h
  | _ :: _, [], h => by cases h
  | x :: a, y :: b, h => by
    change (if x = y then cmpL a b else cmpI x y) = 0 at h
    by_cases e : x = y
    · rw [if_pos e] at h
      rw [e, cmpL_zero h]
    · rw [if_neg e] at h
      unfold cmpI at h
      split at h
      · cases h
      · split at h
        · cases h
        · omega
theorem cmpL_trans : ∀ {a b c : List Int}, cmpL a b < 0 → cmpL b c < 0 → cmpL a c < 0
  | [], [], _, h, _ => by cases h
  | [], _ :: _, [], _, h => by change (1 : Int) < 0 at h; omega
  | [], _ :: _, _ :: _, _, _ => by show (-1 : Int) < 0; omega
  | _ :: _, [], _, h, _ => by change (1 : Int) < 0 at h; omega
  | _ :: _, _ :: _, [], _, h => by change (1 : Int) < 0 at h; omega
  | x :: a, y :: b, z :: c, h1, h2 => by
    change (if x = y then cmpL a b else cmpI x y) < 0 at h1
    change (if y = z then cmpL b c else cmpI y z) < 0 at h2
    show (if x = z then cmpL a c else cmpI x z) < 0
    have lt : ∀ {p q : Int}, cmpI p q < 0 → p < q := by
      intro p q h
      unfold cmpI at h
      split at h
      · assumption
      · split at h <;> omega
    have of : ∀ {p q : Int}, p < q → cmpI p q < 0 := by
      intro p q h
      unfold cmpI
      rw [if_pos h]; omega
    by_cases e1 : x = y
    · rw [if_pos e1] at h1
      by_cases e2 : y = z
      · rw [if_pos e2] at h2
        rw [if_pos (e1.trans e2)]
        exact cmpL_trans h1 h2
      · rw [if_neg e2] at h2
        have := lt h2
        rw [if_neg (by omega)]
        exact of (by omega)
    · rw [if_neg e1] at h1
      have l1 := lt h1
      by_cases e2 : y = z
      · rw [if_neg (by omega)]
        exact of (by omega)
      · rw [if_neg e2] at h2
        have := lt h2
        rw [if_neg (by omega)]
        exact of (by omega)

theorem better_iff {a b : List Int} : better a b = true ↔ a.length > b.length ∨ (a.length = b.length ∧ cmpL a b < 0) := by
  unfold better
  simp only [Bool.or_eq_true, Bool.and_eq_true, decide_eq_true_eq]
theorem better_trans {a b c : List Int} (h1 : better a b = true) (h2 : better b c = true) : better a c = true := by
  rw [better_iff] at *
  rcases h1 with h1 | ⟨h1, h1'⟩ <;> rcases h2 with h2 | ⟨h2, h2'⟩
  · left; omega
  · left; omega
  · left; omega
  · exact .inr ⟨by omega, cmpL_trans h1' h2'⟩
theorem better_total {a b : List Int} (h1 : better a b = false) (h2 : better b a = false) : a = b := by
  rw [Bool.eq_false_iff] at h1 h2
  rw [Ne, better_iff] at h1 h2
  have hl : a.length = b.length := by omega
  have e := cmpL_flip a b
  refine cmpL_zero ?_
  have q1 : ¬ cmpL a b < 0 := fun h => h1 (.inr ⟨hl, h⟩)
  have q2 : ¬ cmpL b a < 0 := fun h => h2 (.inr ⟨hl.symm, h⟩)
  omega

def stepB (P : List Int → Bool) (best c : List Int) : List Int := if better c best = true ∧ P c = true then c else best
theorem stepB_spec (P : List Int → Bool) : ∀ (l done : List (List Int)) (best : List Int), (best = [] ∨ (best ∈ done ∧ P best = true)) → (∀ x ∈ done, P x = true → better x best = false) →
    ((l.foldl (stepB P) best = [] ∨ (l.foldl (stepB P) best ∈ done ++ l ∧ P (l.foldl (stepB P) best) = true)) ∧ ∀ x ∈ done ++ l, P x = true → better x (l.foldl (stepB P) best) = false)
  | [], done, best, h1, h2 => by simpa using ⟨h1, h2⟩
  | c :: l, done, best, h1, h2 => by
    rw [show done ++ c :: l = (done ++ [c]) ++ l by simp]
    refine stepB_spec P l (done ++ [c]) (stepB P best c) ?_ ?_
    · unfold stepB
      split
      · rename_i h; exact .inr ⟨by simp, h.2⟩
      · rcases h1 with h1 | ⟨h1, h1'⟩
        · exact .inl h1
        · exact .inr ⟨by simp [h1], h1'⟩
    · intro x hx hp
      unfold stepB
      split
      · rename_i h
        rcases List.mem_append.1 hx with hx | hx
        · have h3 := h2 x hx hp
          rw [Bool.eq_false_iff] at h3 ⊢
          intro h4
          exact h3 (better_trans h4 h.1)
        · rw [List.mem_singleton] at hx
          subst hx
          rw [Bool.eq_false_iff, Ne, better_iff, cmpL_refl]
          omega
      · rename_i h
        rcases List.mem_append.1 hx with hx | hx
        · exact h2 x hx hp
        · rw [List.mem_singleton] at hx
          subst hx
          rw [Bool.eq_false_iff]
          intro h4
          exact h ⟨h4, hp⟩
/-- The best of the good ones is the same, whatever the order. -/
theorem best_same {P Q : List Int → Bool} {l m : List (List Int)} (h1 : ∀ x ∈ l, P x = true → x ∈ m ∧ Q x = true) (h2 : ∀ x ∈ m, Q x = true → x ∈ l ∧ P x = true) : l.foldl (stepB P) [] = m.foldl (stepB Q) [] := by
  obtain ⟨a1, a2⟩ := stepB_spec P l [] [] (.inl rfl) (fun x hx => by simp at hx)
  obtain ⟨b1, b2⟩ := stepB_spec Q m [] [] (.inl rfl) (fun x hx => by simp at hx)
  simp only [List.nil_append] at a1 a2 b1 b2
  generalize l.foldl (stepB P) [] = x at a1 a2 ⊢
  generalize m.foldl (stepB Q) [] = y at b1 b2 ⊢
  have nb : ∀ z : List Int, z ≠ [] → better z [] = true := fun z hz => by
    rw [better_iff]
    left
    exact List.length_pos_iff.2 hz
  rcases a1 with rfl | ⟨a1, a1'⟩
  · rcases b1 with rfl | ⟨b1, b1'⟩
    · rfl
    · obtain ⟨q1, q2⟩ := h2 y b1 b1'
      have := a2 y q1 q2
      by_cases hy : y = []
      · exact hy.symm
      · rw [nb y hy] at this; cases this
  · obtain ⟨p1, p2⟩ := h1 x a1 a1'
    rcases b1 with rfl | ⟨b1, b1'⟩
    · have := b2 x p1 p2
      by_cases hx : x = []
      · exact hx
      · rw [nb x hx] at this; cases this
    · obtain ⟨q1, q2⟩ := h2 y b1 b1'
      exact better_total (b2 x p1 p2) (a2 y q1 q2)

/-! ### All sets are tried -/
theorem setOf_sub (n b : Nat) : (setOf n b).Sublist (nums n) := List.filter_sublist
theorem sub_one {α : Type} {z : List α} {a : α} (h : z.Sublist [a]) : z = [] ∨ z = [a] := by
  cases z with
  | nil => exact .inl rfl
  | cons b z =>
    right
    have h1 := h.length_le
    have h2 : z = [] := List.eq_nil_of_length_eq_zero (by simpa using h1)
    subst h2
    have h3 := List.singleton_sublist.1 h
    rw [List.mem_singleton] at h3
    rw [h3]
theorem setOf_exists : ∀ (n : Nat) (x : List Int), x.Sublist (nums n) → ∃ b, b < 2 ^ n ∧ setOf n b = x
  | 0, x, h => by
    have : x = [] := by simpa [nums] using h
    exact ⟨0, by simp, by rw [this]; rfl⟩
  | n + 1, x, h => by
    rw [nums_succ] at h
    obtain ⟨y, z, rfl, hy, hz⟩ := List.sublist_append_iff.1 h
    obtain ⟨b, hb, e⟩ := setOf_exists n y hy
    have hpow : 2 ^ (n + 1) = 2 ^ n + 2 ^ n := by rw [Nat.pow_succ]; omega
    have hcong : ∀ c : Nat, (∀ k, k < n → c.testBit k = b.testBit k) → setOf (n + 1) c = if c.testBit n = true then y ++ [(n : Int)] else y := by
      intro c hc
      unfold setOf
      rw [filt_nums_succ]
      have : (nums n).filter (fun k => c.testBit k.toNat) = y := by
        rw [← e]
        unfold setOf
        refine List.filter_congr fun k hk => ?_
        have := nums_mem.1 hk
        exact hc _ (by omega)
      rw [this, Int.toNat_natCast]
    rcases sub_one hz with rfl | rfl
    · refine ⟨b, by omega, ?_⟩
      rw [hcong b fun _ _ => rfl, Nat.testBit_lt_two_pow hb]
      simp
    · refine ⟨2 ^ n + b, by omega, ?_⟩
      rw [hcong (2 ^ n + b) fun k hk => Nat.testBit_two_pow_add_gt hk b, if_pos (by rw [Nat.testBit_two_pow_add_eq, Nat.testBit_lt_two_pow hb]; rfl)]

def openP (t : Ste) (g : Int) : Bool := (nums t.length).any fun r => hits t r g.toNat
theorem openL_filter (t : Ste) : openL t = (nums (goals8 t)).filter (openP t) := by
  unfold openL metL nums openP
  rw [List.filter_map]
  congr 1
theorem open_mem {t : Ste} {g : Int} : g ∈ openL t ↔ (0 ≤ g ∧ g < goals8 t) ∧ openP t g = true := by
  rw [openL_filter, List.mem_filter, nums_mem]
theorem sub_open {t : Ste} {x : List Int} : x.Sublist (openL t) ↔ x.Sublist (nums (goals8 t)) ∧ ∀ g ∈ x, g ∈ openL t := by
  constructor
  · intro h
    refine ⟨?_, fun g hg => h.mem hg⟩
    rw [openL_filter] at h
    exact h.trans List.filter_sublist
  · rintro ⟨h1, h2⟩
    have := h1.filter (openP t)
    rw [← openL_filter] at this
    rw [List.filter_eq_self.2 fun g hg => (open_mem.1 (h2 g hg)).2] at this
    exact this
theorem pick_all (t : Ste) : pickO t (nums (openL t).length) = openL t := by
  unfold pickO nums
  rw [List.map_map]
  apply List.ext_getElem?
  intro i
  rw [List.getElem?_map]
  by_cases hi : i < (openL t).length
  · rw [List.getElem?_range hi]
    simp [hi]
  · rw [List.getElem?_eq_none (by simpa using hi), List.getElem?_eq_none (by omega)]; rfl

def goodR (t : Ste) (x : List Int) : Bool := (x.all fun g => decide (g ∈ openL t)) && exclB t x
theorem excl_same (t : Ste) : (setsL (goals8 t)).foldl (stepB (goodR t)) [] = exclT t := by
  have h0 : exclT t = ((setsL (openL t).length).map (pickO t)).foldl (stepB (exclB t)) [] := by
    unfold exclT
    rw [List.foldl_map]
    rfl
  rw [h0]
  refine best_same ?_ ?_
  · intro x hx hg
    unfold setsL at hx
    obtain ⟨b, hb, rfl⟩ := List.mem_map.1 hx
    unfold goodR at hg
    rw [Bool.and_eq_true, List.all_eq_true] at hg
    have hs : (setOf (goals8 t) b).Sublist (openL t) := sub_open.2 ⟨setOf_sub _ _, fun g h => by simpa using hg.1 g h⟩
    refine ⟨?_, hg.2⟩
    rw [← pick_all t] at hs
    obtain ⟨c, hc, e⟩ := List.sublist_map_iff.1 hs
    obtain ⟨b', hb', e'⟩ := setOf_exists _ c hc
    refine List.mem_map.2 ⟨c, ?_, e.symm⟩
    unfold setsL
    exact List.mem_map.2 ⟨b', List.mem_range.2 hb', e'⟩
  · intro x hx hg
    obtain ⟨c, hc, rfl⟩ := List.mem_map.1 hx
    unfold setsL at hc
    obtain ⟨b, hb, rfl⟩ := List.mem_map.1 hc
    have hs : (pickO t (setOf (openL t).length b)).Sublist (openL t) := by
      have := (setOf_sub (openL t).length b).map (fun k => (openL t).getD k.toNat 0)
      have e := pick_all t
      unfold pickO at e ⊢
      rw [e] at this
      exact this
    obtain ⟨h1, h2⟩ := sub_open.1 hs
    obtain ⟨b', hb', e'⟩ := setOf_exists _ _ h1
    refine ⟨?_, ?_⟩
    · unfold setsL
      exact List.mem_map.2 ⟨b', List.mem_range.2 hb', e'⟩
    · unfold goodR
      rw [hg, Bool.and_true, List.all_eq_true]
      exact fun g h => by simpa using h2 g h

end Go.Tk
