/- Plain facts of layer 8: sets of rows. No program in sight. -/
import Derived.Test.YtmedjckknalpbaaP8
set_option linter.unusedSimpArgs false
set_option linter.unusedVariables false
set_option linter.unnecessarySimpa false
namespace Go.Tk
open Go Go.RowKit

theorem idxF_cases {α : Type} (d : α) (p : α → Bool) (s : List α) : (idxF p s = -1 ∧ s.any p = false) ∨ ∃ k, k < s.length ∧ idxF p s = (k : Int) ∧ (s.take k).any p = false ∧ p (s.getD k d) = true := by
  have key : ∀ i, i ≤ s.length → (s.take i).any p = false → (idxF p s = -1 ∧ s.any p = false) ∨ ∃ k, k < s.length ∧ idxF p s = (k : Int) ∧ (s.take k).any p = false ∧ p (s.getD k d) = true := by
    refine upto ?_ ?_
    · intro ha
      rw [List.take_length] at ha
      exact .inl ⟨idxF_none ha, ha⟩
    · intro i hi ih ha
      cases hv : p (s.getD i d)
      · exact ih (any_take_next d hi ha hv)
      · exact .inr ⟨i, hi, idxF_at d hi ha hv, ha, hv⟩
  exact key 0 (Nat.zero_le _) rfl

/-! ### DeleteFunc -/
def keepK {α : Type} (p : α → Bool) (s : List α) (j : Nat) : List α := (s.take j).filter fun r => !p r
theorem keepK_all {α : Type} (p : α → Bool) (s : List α) : keepK p s s.length = s.filter fun r => !p r := by unfold keepK; rw [List.take_length]
theorem keepK_len {α : Type} (p : α → Bool) (s : List α) (j : Nat) : (keepK p s j).length ≤ j := by
  unfold keepK
  exact Nat.le_trans (List.length_filter_le ..) (by rw [List.length_take]; omega)
theorem keepK_succ {α : Type} (d : α) (p : α → Bool) {s : List α} {j : Nat} (hj : j < s.length) : keepK p s (j + 1) = if p (s.getD j d) = true then keepK p s j else keepK p s j ++ [s.getD j d] := by
  unfold keepK
  rw [take_snoc d hj, List.filter_append]
  cases h : p (s.getD j d)
  · have : List.filter (fun r => !p r) [s.getD j d] = [s.getD j d] := by rw [List.filter_cons_of_pos (by rw [h]; rfl)]; rfl
    rw [this]; simp
  · have : List.filter (fun r => !p r) [s.getD j d] = [] := by rw [List.filter_cons_of_neg (by rw [h]; simp)]; rfl
    rw [this]; simp
theorem keepK_none {α : Type} {p : α → Bool} {s : List α} {j : Nat} (h : (s.take j).any p = false) : keepK p s j = s.take j := by
  unfold keepK
  rw [List.filter_eq_self]
  intro a ha
  have := List.any_eq_false.1 h a ha
  simpa using this
theorem filter_none {α : Type} {p : α → Bool} {s : List α} (h : s.any p = false) : (s.filter fun r => !p r) = s := by
  have := keepK_none (p := p) (s := s) (j := s.length) (by rw [List.take_length]; exact h)
  rw [keepK_all, List.take_length] at this
  exact this

/-- What the loop of DeleteFunc keeps. -/
structure DelI {α : Type} (p : α → Bool) (s s1 : List α) (j : Nat) : Prop where
  len : s1.length = s.length
  lt : (keepK p s j).length < j
  fst : s1.take (keepK p s j).length = keepK p s j
  rest : s1.drop j = s.drop j

theorem DelI.start {α : Type} (d : α) {p : α → Bool} {s : List α} {k : Nat} (hk : k < s.length) (h1 : (s.take k).any p = false) (h2 : p (s.getD k d) = true) : DelI p s s (k + 1) ∧ (keepK p s (k + 1)).length = k := by
  have e : keepK p s (k + 1) = s.take k := by rw [keepK_succ d p hk, if_pos h2, keepK_none h1]
  have l : (s.take k).length = k := by rw [List.length_take]; omega
  exact ⟨⟨rfl, by rw [e, l]; omega, by rw [e, l], rfl⟩, by rw [e, l]⟩
theorem DelI.get {α : Type} {d : α} {p : α → Bool} {s s1 : List α} {j : Nat} (h : DelI p s s1 j) (hj : j < s.length) : s1.getD j d = s.getD j d := by
  have h1 : (s1.drop j)[0]? = (s.drop j)[0]? := by rw [h.rest]
  simp only [List.getElem?_drop, Nat.add_zero] at h1
  rw [List.getD_eq_getElem?_getD, List.getD_eq_getElem?_getD, h1]
theorem DelI.keep {α : Type} {d : α} {p : α → Bool} {s s1 : List α} {j : Nat} (h : DelI p s s1 j) (hj : j < s.length) (hp : p (s.getD j d) = false) : DelI p s (s1.set (keepK p s j).length (s.getD j d)) (j + 1) ∧ (keepK p s (j + 1)).length = (keepK p s j).length + 1 := by
  have e : keepK p s (j + 1) = keepK p s j ++ [s.getD j d] := by rw [keepK_succ d p hj, if_neg (by rw [hp]; simp)]
  have hl : (keepK p s (j + 1)).length = (keepK p s j).length + 1 := by rw [e]; simp
  have hlt := h.lt
  refine ⟨⟨by rw [List.length_set]; exact h.len, by omega, ?_, ?_⟩, hl⟩
  · rw [hl, e, take_snoc d (by rw [List.length_set, h.len]; omega), List.take_set_of_le (Nat.le_refl _), h.fst]
    congr 1
    simp [List.getElem?_set, h.len, show (keepK p s j).length < s.length by omega]
  · rw [List.drop_set_of_lt (by omega)]
    have := congrArg (List.drop 1) h.rest
    simpa [List.drop_drop] using this
theorem DelI.skip {α : Type} {d : α} {p : α → Bool} {s s1 : List α} {j : Nat} (h : DelI p s s1 j) (hj : j < s.length) (hp : p (s.getD j d) = true) : DelI p s s1 (j + 1) ∧ keepK p s (j + 1) = keepK p s j := by
  have e : keepK p s (j + 1) = keepK p s j := by rw [keepK_succ d p hj, if_pos hp]
  have hlt := h.lt
  refine ⟨⟨h.len, by rw [e]; omega, by rw [e]; exact h.fst, ?_⟩, e⟩
  have := congrArg (List.drop 1) h.rest
  simpa [List.drop_drop] using this

/-! ### The search for a cover -/
def srch (t : Ste) : Nat → List Int → Nat → Option (List Int × Unit)
  | 0, l, _ => if coverB t l = true then some (l, ()) else none
  | m + 1, l, from_ => (List.range t.length).findSome? fun r => if from_ ≤ r ∧ r + (m + 1) ≤ t.length then srch t m (l ++ [(r : Int)]) (r + 1) else none

theorem srch_none {t : Ste} {m : Nat} {l : List Int} {from_ : Nat} (h : ∀ r, from_ ≤ r → r + (m + 1) ≤ t.length → srch t m (l ++ [(r : Int)]) (r + 1) = none) : srch t (m + 1) l from_ = none := by
  unfold srch
  rw [List.findSome?_eq_none_iff]
  intro r hr
  split
  · rename_i hc; exact h r hc.1 hc.2
  · rfl
theorem srch_some {t : Ste} {m : Nat} {l : List Int} {from_ r : Nat} {y : List Int × Unit} (h : ∀ q, from_ ≤ q → q < r → srch t m (l ++ [(q : Int)]) (q + 1) = none) (h1 : from_ ≤ r) (h2 : r + (m + 1) ≤ t.length) (h3 : srch t m (l ++ [(r : Int)]) (r + 1) = some y) : srch t (m + 1) l from_ = some y := by
  unfold srch
  have key : ∀ n, r + n + 1 ≤ t.length → (List.range (r + n + 1)).findSome? (fun r => if from_ ≤ r ∧ r + (m + 1) ≤ t.length then srch t m (l ++ [(r : Int)]) (r + 1) else none) = some y := by
    intro n
    induction n with
    | zero =>
      intro hn
      rw [Nat.add_zero, List.range_succ, List.findSome?_append]
      have : (List.range r).findSome? (fun r => if from_ ≤ r ∧ r + (m + 1) ≤ t.length then srch t m (l ++ [(r : Int)]) (r + 1) else none) = none := by
        rw [List.findSome?_eq_none_iff]
        intro q hq
        rw [List.mem_range] at hq
        split
        · rename_i hc; exact h q hc.1 hq
        · rfl
      rw [this]
      simp [h1, h2, h3]
    | succ n ih =>
      intro hn
      rw [show r + (n + 1) + 1 = (r + n + 1) + 1 by omega, List.range_succ, List.findSome?_append, ih (by omega)]
      rfl
  have := key (t.length - r - 1) (by omega)
  rw [show r + (t.length - r - 1) + 1 = t.length by omega] at this
  exact this

/-! ### All sets of numbers -/
def setOf (n b : Nat) : List Int := (nums n).filter fun k => b.testBit k.toNat
def setsL (n : Nat) : List (List Int) := (List.range (2 ^ n)).map (setOf n)
theorem setsL_take (n k : Nat) : (List.range (k + 1)).map (setOf n) = (List.range k).map (setOf n) ++ [setOf n k] := by
  rw [List.range_succ, List.map_append]; rfl

theorem bit_and (m : Nat) (h : m < 9223372036854775808) : (IntKind.i64.wrap (BitVec.ofInt 64 (m : Int) &&& BitVec.ofInt 64 (1 : Int)).toNat) = ((m % 2 : Nat) : Int) := by
  have : (BitVec.ofInt 64 (m : Int) &&& BitVec.ofInt 64 (1 : Int)).toNat = m % 2 := by
    rw [show BitVec.ofInt 64 (m : Int) = BitVec.ofNat 64 m by simp, show BitVec.ofInt 64 (1 : Int) = BitVec.ofNat 64 1 by simp]
    rw [BitVec.toNat_and, BitVec.toNat_ofNat, BitVec.toNat_ofNat, Nat.mod_eq_of_lt (show m < 2 ^ 64 by omega), Nat.mod_eq_of_lt (show 1 < 2 ^ 64 by decide), Nat.and_one_is_mod]
  rw [this]
  rcases Nat.mod_two_eq_zero_or_one m with e | e <;> rw [e] <;> decide

theorem bit_test (m k : Nat) (h : m < 9223372036854775808) : (IntKind.i64.wrap (BitVec.ofInt 64 (Int.fdiv (m : Int) (2 ^ k)) &&& BitVec.ofInt 64 (1 : Int)).toNat == (0 : Int)) = !(m.testBit k) := by
  have e : Int.fdiv (m : Int) (2 ^ k) = ((m / 2 ^ k : Nat) : Int) := by
    rw [show ((2 : Int) ^ k) = ((2 ^ k : Nat) : Int) by norm_cast]
    exact (Int.ofNat_fdiv m (2 ^ k)).symm
  rw [e, bit_and _ (Nat.lt_of_le_of_lt (Nat.div_le_self ..) h), Nat.testBit_eq_decide_div_mod_eq]
  rcases Nat.mod_two_eq_zero_or_one (m / 2 ^ k) with e | e <;> rw [e] <;> decide

/-! ### Lists of numbers in order -/
def cmpI (x y : Int) : Int := if x < y then -1 else if x > y then 1 else 0
def cmpL : List Int → List Int → Int
  | [], [] => 0
  | [], _ :: _ => -1
  | _ :: _, [] => 1
  | x :: a, y :: b => if x = y then cmpL a b else cmpI x y

theorem cmpL_drop {a b : List Int} : ∀ i, a.take i = b.take i → i ≤ a.length → i ≤ b.length → cmpL a b = cmpL (a.drop i) (b.drop i)
  | 0, _, _, _ => rfl
  | i + 1, h, ha, hb => by
    cases a with
    | nil => simp at ha
    | cons x a => cases b with
      | nil => simp at hb
      | cons y b =>
        simp only [List.take_succ_cons, List.cons.injEq] at h
        simp only [List.drop_succ_cons]
        rw [show cmpL (x :: a) (y :: b) = if x = y then cmpL a b else cmpI x y from rfl, if_pos h.1]
        exact cmpL_drop i h.2 (by simpa using ha) (by simpa using hb)

theorem cmpL_at {a b : List Int} {i : Nat} (h : a.take i = b.take i) (ha : i < a.length) (hb : i < b.length) (hne : a.getD i 0 ≠ b.getD i 0) : cmpL a b = cmpI (a.getD i 0) (b.getD i 0) := by
  rw [cmpL_drop i h (by omega) (by omega)]
  have e1 : a.drop i = a.getD i 0 :: a.drop (i + 1) := by rw [List.drop_eq_getElem_cons ha]; simp [List.getD_eq_getElem?_getD, ha]
  have e2 : b.drop i = b.getD i 0 :: b.drop (i + 1) := by rw [List.drop_eq_getElem_cons hb]; simp [List.getD_eq_getElem?_getD, hb]
  rw [e1, e2]
  show (if _ = _ then _ else _) = _
  rw [if_neg hne]
theorem cmpL_gt {a b : List Int} {i : Nat} (h : a.take i = b.take i) (ha : i < a.length) (hb : b.length ≤ i) (hb2 : i ≤ b.length) : cmpL a b = 1 := by
  rw [cmpL_drop i h (by omega) hb2]
  have e1 : a.drop i = a.getD i 0 :: a.drop (i + 1) := by rw [List.drop_eq_getElem_cons ha]; simp [List.getD_eq_getElem?_getD, ha]
  have e2 : b.drop i = [] := List.drop_eq_nil_of_le hb
  rw [e1, e2]; rfl
theorem cmpL_end {a b : List Int} (h : a.take a.length = b.take a.length) (hb : a.length ≤ b.length) : cmpL a b = if a.length < b.length then -1 else 0 := by
  rw [cmpL_drop a.length h (Nat.le_refl _) hb]
  have e1 : a.drop a.length = [] := by simp
  rw [e1]
  split
  · rename_i hl
    have e2 : b.drop a.length = b.getD a.length 0 :: b.drop (a.length + 1) := by rw [List.drop_eq_getElem_cons hl]; simp [List.getD_eq_getElem?_getD, hl]
    rw [e2]; rfl
  · have e2 : b.drop a.length = [] := List.drop_eq_nil_of_le (by omega)
    rw [e2]; rfl

end Go.Tk
