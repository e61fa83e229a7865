/- Plain facts: which repairs need which, and what is done in another order (layer 7). No program in sight. -/
import Derived.Test.YthjkkjnnkkekeaaC7r
set_option linter.unusedSimpArgs false
set_option linter.unusedVariables false
set_option linter.unnecessarySimpa false
namespace Go.Tk
open Go Go.RowKit

/-! ### Numbers below n with a property -/
def selTo (p : Nat → Bool) : Nat → List Int
  | 0 => []
  | n + 1 => selTo p n ++ if p n = true then [(n : Int)] else []
theorem selTo_len (p : Nat → Bool) : ∀ n, (selTo p n).length ≤ n
  | 0 => Nat.le_refl _
  | n + 1 => by
    unfold selTo
    rw [List.length_append]
    have := selTo_len p n
    split <;> simp <;> omega
theorem selTo_mem {p : Nat → Bool} {x : Int} : ∀ {n}, x ∈ selTo p n ↔ ∃ k, k < n ∧ x = (k : Int) ∧ p k = true
  | 0 => by simp [selTo]
  | n + 1 => by
    unfold selTo
    rw [List.mem_append, selTo_mem (n := n)]
    constructor
    · rintro (⟨k, h1, h2, h3⟩ | h)
      · exact ⟨k, by omega, h2, h3⟩
      · split at h
        · rename_i hp
          simp at h
          exact ⟨n, by omega, h, hp⟩
        · simp at h
    · rintro ⟨k, h1, h2, h3⟩
      by_cases e : k = n
      · subst e
        right; rw [if_pos h3]; simp [h2]
      · exact .inl ⟨k, by omega, h2, h3⟩
theorem selTo_has {p : Nat → Bool} {n k : Nat} : (k : Int) ∈ selTo p n ↔ k < n ∧ p k = true := by
  rw [selTo_mem]
  constructor
  · rintro ⟨j, h1, h2, h3⟩
    obtain rfl : k = j := by omega
    exact ⟨h1, h3⟩
  · rintro ⟨h1, h2⟩
    exact ⟨k, h1, rfl, h2⟩
theorem selTo_congr {p q : Nat → Bool} : ∀ {n}, (∀ k, k < n → p k = q k) → selTo p n = selTo q n
  | 0, _ => rfl
  | n + 1, h => by
    unfold selTo
    rw [selTo_congr (n := n) fun k hk => h k (by omega), h n (by omega)]
theorem selTo_none {p : Nat → Bool} : ∀ {n}, (∀ k, k < n → p k = false) → selTo p n = []
  | 0, _ => rfl
  | n + 1, h => by
    unfold selTo
    rw [selTo_none (n := n) fun k hk => h k (by omega), h n (by omega)]; rfl
theorem selTo_all {p : Nat → Bool} : ∀ {n}, (∀ k, k < n → p k = true) → selTo p n = upI n
  | 0, _ => rfl
  | n + 1, h => by
    unfold selTo upI
    rw [selTo_all (n := n) fun k hk => h k (by omega), if_pos (h n (by omega))]
theorem upI_mem {n : Nat} {x : Int} : x ∈ upI n ↔ 0 ≤ x ∧ x < n := by
  induction n with
  | zero => simp [upI]
  | succ n ih =>
    unfold upI
    rw [List.mem_append, ih]
    simp
    omega

/-! ### Needs -/
def tch (h : List (List Edt)) (a b : Nat) : Bool := touchB h a b
theorem any_swap {α β : Type} (p : α → β → Bool) (l : List α) (k : List β) : (l.any fun x => k.any fun y => p x y) = (k.any fun y => l.any fun x => p x y) := by
  rw [Bool.eq_iff_iff]
  simp only [List.any_eq_true]
  exact ⟨fun ⟨x, h1, y, h2, h3⟩ => ⟨y, h2, x, h1, h3⟩, fun ⟨x, h1, y, h2, h3⟩ => ⟨y, h2, x, h1, h3⟩⟩
theorem touchB_comm (h : List (List Edt)) (a b : Int) : touchB h a b = touchB h b a := by
  unfold touchB
  rw [any_swap]
  congr 1; funext x; congr 1; funext y
  rw [Bool.eq_iff_iff]; simp; exact eq_comm
theorem tch_comm (h : List (List Edt)) (a b : Nat) : tch h a b = tch h b a := touchB_comm h a b
theorem dirTo_sel (h : List (List Edt)) (n : Nat) : ∀ k, dirTo h (n : Int) k = selTo (fun k => tch h k n) k
  | 0 => rfl
  | k + 1 => by unfold dirTo selTo; rw [dirTo_sel h n k]; rfl

/-- n needs m; f: more than n. -/
def ndF (h : List (List Edt)) : Nat → Nat → Nat → Bool
  | 0, _, _ => false
  | f + 1, n, m => decide (m < n) && (tch h m n || (List.range n).any fun k => tch h k n && ndF h f k m)
def need (h : List (List Edt)) (n m : Nat) : Bool := ndF h (n + 1) n m
theorem ndF_any (h : List (List Edt)) : ∀ f g n m, n < f → n < g → ndF h f n m = ndF h g n m
  | 0, _, _, _, hf, _ => by omega
  | _ + 1, 0, _, _, _, hg => by omega
  | f + 1, g + 1, n, m, hf, hg => by
    unfold ndF
    congr 2
    rw [Bool.eq_iff_iff]
    simp only [List.any_eq_true, List.mem_range, Bool.and_eq_true]
    constructor
    · rintro ⟨k, h1, h2, h3⟩
      exact ⟨k, h1, h2, by rw [← h3]; exact (ndF_any h f g k m (by omega) (by omega)).symm⟩
    · rintro ⟨k, h1, h2, h3⟩
      exact ⟨k, h1, h2, by rw [← h3]; exact (ndF_any h f g k m (by omega) (by omega))⟩
theorem need_iff {h : List (List Edt)} {n m : Nat} : need h n m = true ↔ m < n ∧ (tch h m n = true ∨ ∃ k, k < n ∧ tch h k n = true ∧ need h k m = true) := by
  unfold need
  rw [ndF]
  simp only [List.any_eq_true, List.mem_range, Bool.and_eq_true, Bool.or_eq_true, decide_eq_true_eq]
  constructor
  · rintro ⟨h1, h2 | ⟨k, h2, h3, h4⟩⟩
    · exact ⟨h1, .inl h2⟩
    · exact ⟨h1, .inr ⟨k, h2, h3, by rw [← h4]; exact ndF_any h _ _ k m (by omega) (by omega)⟩⟩
  · rintro ⟨h1, h2 | ⟨k, h2, h3, h4⟩⟩
    · exact ⟨h1, .inl h2⟩
    · exact ⟨h1, .inr ⟨k, h2, h3, by rw [← h4]; exact ndF_any h _ _ k m (by omega) (by omega)⟩⟩
theorem need_lt {h : List (List Edt)} {n m : Nat} (e : need h n m = true) : m < n := (need_iff.1 e).1
theorem need_dir {h : List (List Edt)} {n m : Nat} (hm : m < n) (e : tch h m n = true) : need h n m = true := need_iff.2 ⟨hm, .inl e⟩
theorem need_trans {h : List (List Edt)} : ∀ {n k m : Nat}, need h n k = true → need h k m = true → need h n m = true := by
  intro n
  induction n using Nat.strongRecOn with
  | ind n ih =>
    intro k m h1 h2
    have hk := need_lt h1
    have hm := need_lt h2
    rcases (need_iff.1 h1).2 with g | ⟨j, g1, g2, g3⟩
    · exact need_iff.2 ⟨by omega, .inr ⟨k, hk, g, h2⟩⟩
    · exact need_iff.2 ⟨by omega, .inr ⟨j, g1, g2, ih j g1 g3 h2⟩⟩
/-- What has all that is needed directly has all that is needed. -/
theorem need_closed {h : List (List Edt)} {S : Nat → Prop} (h2 : ∀ j, S j → ∀ k, k < j → tch h k j = true → S k) : ∀ {n m : Nat}, need h n m = true → (∀ k, k < n → tch h k n = true → S k) → S m := by
  intro n
  induction n using Nat.strongRecOn with
  | ind n ih =>
    intro m e h1
    rcases (need_iff.1 e).2 with g | ⟨k, g1, g2, g3⟩
    · exact h1 m (need_iff.1 e).1 g
    · exact ih k g1 g3 fun j hj hj2 => h2 k (h1 k g1 g2) j hj hj2

/-! ### The search for what a repair needs -/
def offs (L : List Bool) : Nat := (L.filter fun b => !b).length
theorem offs_set {L : List Bool} {i : Nat} (hi : i < L.length) (e : L.getD i false = false) : offs (L.set i true) + 1 = offs L := by
  induction L generalizing i with
  | nil => simp at hi
  | cons b L ih =>
    cases i with
    | zero =>
      simp at e; subst e
      simp [offs]
    | succ i =>
      have := ih (i := i) (by simpa using hi) (by simpa using e)
      simp only [offs] at this ⊢
      cases b <;> simp_all
theorem offs_le (L : List Bool) : offs L ≤ L.length := List.length_filter_le ..

structure Srch (h : List (List Edt)) (n : Nat) (L : List Bool) (o : List Int) : Prop where
  len : L.length = h.length
  mem : ∀ k ∈ o, ∃ j : Nat, k = (j : Int) ∧ need h n j = true
  sub : ∀ k, L.getD k false = true → need h n k = true
  one : ∀ k, k < n → tch h k n = true → L.getD k false = true ∨ (k : Int) ∈ o
  all : ∀ j, L.getD j false = true → ∀ k, k < j → tch h k j = true → L.getD k false = true ∨ (k : Int) ∈ o
theorem Srch.start {h : List (List Edt)} {n : Nat} : Srch h n (List.replicate h.length false) (dirTo h n n) := by
  have e : ∀ k, (List.replicate h.length false).getD k false = false := by
    intro k
    simp only [List.getD_eq_getElem?_getD, List.getElem?_replicate]
    split <;> rfl
  refine ⟨by simp, fun k hk => ?_, fun k hk => (by rw [e] at hk; cases hk), fun k hk ht => .inr ?_, fun j hj => (by rw [e] at hj; cases hj)⟩
  · rw [dirTo_sel, selTo_mem] at hk
    obtain ⟨j, h1, h2, h3⟩ := hk
    exact ⟨j, h2, need_dir h1 h3⟩
  · rw [dirTo_sel, selTo_has]
    exact ⟨hk, ht⟩
theorem getD_set_b {L : List Bool} {i j : Nat} : (L.set i true).getD j false = if i = j ∧ i < L.length then true else L.getD j false := by
  simp only [List.getD_eq_getElem?_getD, List.getElem?_set]
  by_cases e : i = j
  · subst e
    by_cases hi : i < L.length
    · simp [hi]
    · simp [hi]
  · simp [e]
theorem Srch.old {h : List (List Edt)} {n : Nat} {L : List Bool} {j : Nat} {o : List Int} (s : Srch h n L ((j : Int) :: o)) (e : L.getD j false = true) : Srch h n L o := by
  refine ⟨s.len, fun k hk => s.mem k (List.mem_cons_of_mem _ hk), s.sub, fun k hk ht => ?_, fun i hi k hk ht => ?_⟩
  · rcases s.one k hk ht with g | g
    · exact .inl g
    · rcases List.mem_cons.1 g with g | g
      · obtain rfl : k = j := by omega
        exact .inl e
      · exact .inr g
  · rcases s.all i hi k hk ht with g | g
    · exact .inl g
    · rcases List.mem_cons.1 g with g | g
      · obtain rfl : k = j := by omega
        exact .inl e
      · exact .inr g
theorem Srch.new {h : List (List Edt)} {n : Nat} {L : List Bool} {j : Nat} {o : List Int} (s : Srch h n L ((j : Int) :: o)) (hj : j < h.length) : Srch h n (L.set j true) (o ++ dirTo h j j) := by
  have hn : need h n j = true := by
    obtain ⟨i, h1, h2⟩ := s.mem _ (List.mem_cons_self ..)
    obtain rfl : j = i := by omega
    exact h2
  have hjl : j < L.length := by rw [s.len]; exact hj
  have up : ∀ k, (L.getD k false = true ∨ (k : Int) ∈ (j : Int) :: o) → (L.set j true).getD k false = true ∨ (k : Int) ∈ o ++ dirTo h j j := by
    intro k hk
    rw [getD_set_b]
    by_cases e : j = k
    · left; rw [if_pos ⟨e, hjl⟩]
    · rw [if_neg (fun q => e q.1)]
      rcases hk with g | g
      · exact .inl g
      · rcases List.mem_cons.1 g with g | g
        · omega
        · exact .inr (List.mem_append_left _ g)
  refine ⟨by simpa using s.len, fun k hk => ?_, fun k hk => ?_, fun k hk ht => up k (s.one k hk ht), fun i hi k hk ht => ?_⟩
  · rcases List.mem_append.1 hk with g | g
    · exact s.mem k (List.mem_cons_of_mem _ g)
    · rw [dirTo_sel, selTo_mem] at g
      obtain ⟨i, h1, h2, h3⟩ := g
      exact ⟨i, h2, need_trans hn (need_dir h1 h3)⟩
  · rw [getD_set_b] at hk
    split at hk
    · rename_i g
      rw [← g.1]; exact hn
    · exact s.sub k hk
  · rw [getD_set_b] at hi
    split at hi
    · rename_i g
      obtain rfl := g.1
      right
      apply List.mem_append_right
      rw [dirTo_sel, selTo_has]
      exact ⟨hk, ht⟩
    · exact up k (s.all i hi k hk ht)
theorem Srch.done {h : List (List Edt)} {n : Nat} {L : List Bool} (s : Srch h n L []) (k : Nat) : L.getD k false = need h n k := by
  cases e : need h n k
  · cases e2 : L.getD k false
    · rfl
    · rw [s.sub k e2] at e; cases e
  · exact need_closed (h := h) (S := fun k => L.getD k false = true) (fun j hj i hi ht => (s.all j hj i hi ht).resolve_right (by simp)) e fun i hi ht => (s.one i hi ht).resolve_right (by simp)

def needsL (h : List (List Edt)) (n : Nat) : List Int := selTo (need h n) h.length
def neededL (h : List (List Edt)) (n : Nat) : List Int := selTo (fun k => need h k n) h.length
theorem needsL_has {h : List (List Edt)} {n k : Nat} (hn : n < h.length) : (k : Int) ∈ needsL h n ↔ need h n k = true := by
  unfold needsL
  rw [selTo_has]
  exact ⟨fun q => q.2, fun q => ⟨by have := need_lt q; omega, q⟩⟩

/-! ### What is left -/
def goneB (h : List (List Edt)) (s : List Int) (n : Nat) : Bool := decide ((n : Int) ∈ s) || s.any fun k => need h n k.toNat
def leftN (h : List (List Edt)) (s : List Int) (n : Nat) : List Int := selTo (fun k => !goneB h s k) n
def leftH (h : List (List Edt)) (s : List Int) : Nat → List (List Edt)
  | 0 => []
  | n + 1 => leftH h s n ++ if goneB h s n = true then [] else [h.getD n []]
theorem leftH_map (h : List (List Edt)) (s : List Int) : ∀ n, leftH h s n = (leftN h s n).map fun k => h.getD k.toNat []
  | 0 => rfl
  | n + 1 => by
    have ih := leftH_map h s n
    unfold leftN at ih ⊢
    unfold leftH selTo
    rw [List.map_append, ← ih]
    cases goneB h s n <;> simp
theorem leftH_len (h : List (List Edt)) (s : List Int) : ∀ n, (leftH h s n).length ≤ n
  | 0 => Nat.le_refl _
  | n + 1 => by
    unfold leftH
    rw [List.length_append]
    have := leftH_len h s n
    split <;> simp <;> omega
theorem leftH_mem {h : List (List Edt)} {s : List Int} : ∀ {n}, n ≤ h.length → ∀ x ∈ leftH h s n, x ∈ h
  | 0, _, x, hx => by simp [leftH] at hx
  | n + 1, hn, x, hx => by
    unfold leftH at hx
    rcases List.mem_append.1 hx with g | g
    · exact leftH_mem (by omega) x g
    · split at g
      · simp at g
      · simp at g; subst g
        exact mem_getD (d := []) (by omega)
/-- A set of numbers below n. -/
def okSet : List Int → Nat → Nat → Bool
  | _, _, 0 => true
  | l, n, i + 1 => okSet l n i && (decide (0 ≤ l.getD i 0) && decide (l.getD i 0 < (n : Int)) && !(decide (i > 0) && decide (l.getD i 0 ≤ l.getD (i - 1) 0)))
def isSetB (l : List Int) (n : Nat) : Bool := okSet l n l.length
theorem okSet_at {l : List Int} {n : Nat} : ∀ {m}, okSet l n m = true → ∀ i, i < m → 0 ≤ l.getD i 0 ∧ l.getD i 0 < n
  | 0, _, i, hi => by omega
  | m + 1, h, i, hi => by
    unfold okSet at h
    simp only [Bool.and_eq_true, decide_eq_true_eq] at h
    by_cases e : i = m
    · subst e; exact h.2.1
    · exact okSet_at h.1 i (by omega)
theorem okSet_false {l : List Int} {n i : Nat} (h : (decide (0 ≤ l.getD i 0) && decide (l.getD i 0 < (n : Int)) && !(decide (i > 0) && decide (l.getD i 0 ≤ l.getD (i - 1) 0))) = false) : ∀ m, i < m → okSet l n m = false
  | 0, hn => by omega
  | m + 1, hn => by
    unfold okSet
    by_cases e : i = m
    · subst e; rw [h, Bool.and_false]
    · rw [okSet_false h m (by omega), Bool.false_and]
theorem isSetB_mem {l : List Int} {n : Nat} (h : isSetB l n = true) : ∀ x ∈ l, 0 ≤ x ∧ x < n := by
  intro x hx
  obtain ⟨i, hi, rfl⟩ := List.getElem_of_mem hx
  have := okSet_at h i hi
  simpa [List.getD_eq_getElem?_getD, hi] using this
theorem okSet_step {l : List Int} {n : Nat} : ∀ {m}, okSet l n m = true → ∀ i, i < m → 0 < i → l.getD (i - 1) 0 < l.getD i 0
  | 0, _, i, hi, _ => by omega
  | m + 1, h, i, hi, h0 => by
    unfold okSet at h
    simp only [Bool.and_eq_true, decide_eq_true_eq, Bool.not_eq_true', Bool.and_eq_false_iff, decide_eq_false_iff_not] at h
    by_cases e : i = m
    · subst e
      rcases h.2.2 with g | g
      · exact absurd h0 g
      · omega
    · exact okSet_step h.1 i (by omega) h0
theorem okSet_ge {l : List Int} {n m : Nat} (h : okSet l n m = true) : ∀ i, i < m → (i : Int) ≤ l.getD i 0
  | 0, hi => (okSet_at h 0 hi).1
  | i + 1, hi => by
    have := okSet_ge h i (by omega)
    have := okSet_step h (i + 1) hi (by omega)
    rw [show i + 1 - 1 = i by omega] at this
    omega
theorem isSetB_len {l : List Int} {n : Nat} (h : isSetB l n = true) : l.length ≤ n := by
  by_cases e : l.length = 0
  · omega
  · have h1 := okSet_ge h (l.length - 1) (by omega)
    have h2 := okSet_at h (l.length - 1) (by omega)
    omega
theorem okSet_up (n N : Nat) (hn : n ≤ N) : ∀ m, m ≤ n → okSet (upI n) N m = true
  | 0, _ => rfl
  | m + 1, hm => by
    unfold okSet
    rw [okSet_up n N hn m (by omega), upI_get n m (by omega)]
    simp only [Bool.true_and, Bool.and_eq_true, decide_eq_true_eq, Bool.not_eq_true', Bool.and_eq_false_iff, decide_eq_false_iff_not]
    refine ⟨⟨by omega, by omega⟩, ?_⟩
    by_cases e : m > 0
    · right; rw [upI_get n (m - 1) (by omega)]; omega
    · exact .inl e
theorem isSetB_up (n : Nat) : isSetB (upI n) n = true := by
  unfold isSetB; rw [upI_len]; exact okSet_up n n (Nat.le_refl _) n (Nat.le_refl _)
theorem errH_iff {n : Nat} : ∀ {h : List (List Edt)}, errH n h = 0 ↔ ∀ x ∈ h, validX x = 0 ∧ far n x = false
  | [] => by simp [errH]
  | x :: hs => by
    unfold errH
    by_cases hv : validX x = 0
    · rw [if_pos hv]
      cases hf : far n x
      · rw [if_neg (by simp), errH_iff (h := hs)]
        simp [hv, hf]
      · rw [if_pos rfl]
        simp [hf]
    · rw [if_neg hv]
      simp [hv]
theorem err7_sub {p : List Lin} {h k : List (List Edt)} (e : err7 p h = 0) (hk : ∀ x ∈ k, x ∈ h) (hl : k.length ≤ 8) : err7 p k = 0 := by
  unfold err7 at e ⊢
  split at e
  · rename_i hv
    split at e
    · cases e
    · rw [if_pos hv, if_neg (by omega)]
      rw [errH_iff] at e ⊢
      exact fun x hx => e x (hk x hx)
  · rename_i hv; exact absurd e hv

/-! ### What the functions give -/
def nE (p : List Lin) (h : List (List Edt)) (n : Int) : Int := if err7 p h = 0 then (if within n 0 ((h.length : Int) - 1) = true then 0 else 4) else err7 p h
def okN (p : List Lin) (h : List (List Edt)) (n : Int) : Prop := err7 p h = 0 ∧ within n 0 ((h.length : Int) - 1) = true
instance (p : List Lin) (h : List (List Edt)) (n : Int) : Decidable (okN p h n) := inferInstanceAs (Decidable (_ ∧ _))
def dirV (p : List Lin) (h : List (List Edt)) (n : Int) : List Int := if okN p h n then dirTo h n n.toNat else []
def needV (p : List Lin) (h : List (List Edt)) (n : Int) : List Int := if okN p h n then needsL h n.toNat else []
def neededV (p : List Lin) (h : List (List Edt)) (n : Int) : List Int := if okN p h n then neededL h n.toNat else []
def okS7 (p : List Lin) (h : List (List Edt)) (s : List Int) : Prop := err7 p h = 0 ∧ isSetB s h.length = true
instance (p : List Lin) (h : List (List Edt)) (s : List Int) : Decidable (okS7 p h s) := inferInstanceAs (Decidable (_ ∧ _))
def revP (p : List Lin) (h : List (List Edt)) (s : List Int) : List Lin := if okS7 p h s then playH p (leftH h s h.length) else []
def revL (p : List Lin) (h : List (List Edt)) (s : List Int) : List Int := if okS7 p h s then leftN h s h.length else []
def revE (p : List Lin) (h : List (List Edt)) (s : List Int) : Int := if err7 p h = 0 then argErr (isSetB s h.length) else err7 p h
def playV (p : List Lin) (h : List (List Edt)) : List Lin := if err7 p h = 0 then playH p h else []
theorem nE_iff {p : List Lin} {h : List (List Edt)} {n : Int} : nE p h n = 0 ↔ okN p h n := by
  unfold nE okN
  by_cases e : err7 p h = 0
  · rw [if_pos e]
    by_cases w : within n 0 ((h.length : Int) - 1) = true
    · rw [if_pos w]; simp [e, w]
    · rw [if_neg w]; simp [w]
  · rw [if_neg e]; simp [e]
theorem okN_at {p : List Lin} {h : List (List Edt)} {n : Int} (e : okN p h n) : 0 ≤ n ∧ n < (h.length : Int) ∧ h.length ≤ 8 := by
  have := within_iff.1 e.2
  have := (err7_ok e.1).2.1
  omega
theorem revE_iff {p : List Lin} {h : List (List Edt)} {s : List Int} : revE p h s = 0 ↔ okS7 p h s := by
  unfold revE okS7
  by_cases e : err7 p h = 0
  · rw [if_pos e, argErr_zero]; simp [e]
  · rw [if_neg e]; simp [e]

/-! ### The document's table of needs -/
def rowN (h : List (List Edt)) (n : Nat) : List Bool := (List.range h.length).map fun k => need h n k
def matN (h : List (List Edt)) : List (List Bool) := (List.range h.length).map fun n => rowN h n
theorem range_map_getD {α : Type} (f : Nat → α) (d : α) (n i : Nat) (hi : i < n) : ((List.range n).map f).getD i d = f i := by
  simp [List.getD_eq_getElem?_getD, hi]
theorem rowN_len (h : List (List Edt)) (n : Nat) : (rowN h n).length = h.length := by simp [rowN]
theorem rowN_get (h : List (List Edt)) {n k : Nat} (hn : n < h.length) : (rowN h n).getD k false = need h n k := by
  by_cases hk : k < h.length
  · exact range_map_getD _ _ _ _ hk
  · rw [List.getD_eq_getElem?_getD, List.getElem?_eq_none (by rw [rowN_len]; omega)]
    cases e : need h n k
    · rfl
    · have := need_lt e; omega
theorem matN_len (h : List (List Edt)) : (matN h).length = h.length := by simp [matN]
theorem matN_row (h : List (List Edt)) {n : Nat} (hn : n < h.length) : (matN h).getD n [] = rowN h n := range_map_getD _ _ _ _ hn
theorem matN_get (h : List (List Edt)) {n k : Nat} (hn : n < h.length) : ((matN h).getD n []).getD k false = need h n k := by
  rw [matN_row h hn, rowN_get h hn]
def outM (h : List (List Edt)) (n : Nat) : List (List Bool) := (List.range h.length).map fun i => if i < n then rowN h i else []
theorem outM_len (h : List (List Edt)) (n : Nat) : (outM h n).length = h.length := by simp [outM]
theorem ext_getD {α : Type} {l k : List α} (d : α) (h : l.length = k.length) (e : ∀ i, i < l.length → l.getD i d = k.getD i d) : l = k := by
  apply List.ext_getElem h
  intro i h1 h2
  have := e i h1
  simpa [List.getD_eq_getElem?_getD, h1, h2] using this
theorem getD_setL {α : Type} {l : List α} {i j : Nat} {a d : α} (hi : i < l.length) : (l.set i a).getD j d = if i = j then a else l.getD j d := by
  simp only [List.getD_eq_getElem?_getD, List.getElem?_set]
  by_cases e : i = j
  · subst e; simp [hi]
  · simp [e]
theorem outM_zero (h : List (List Edt)) : List.replicate h.length ([] : List Bool) = outM h 0 := by
  unfold outM
  apply ext_getD []
  · simp
  · intro i hi
    simp at hi
    rw [range_map_getD _ _ _ _ hi]
    simp [List.getD_eq_getElem?_getD, hi]
theorem outM_succ (h : List (List Edt)) {n : Nat} (hn : n < h.length) : (outM h n).set n (rowN h n) = outM h (n + 1) := by
  apply ext_getD []
  · simp [outM]
  · intro i hi
    simp [outM] at hi
    rw [getD_setL (by simp [outM]; omega)]
    unfold outM
    rw [range_map_getD _ _ _ _ hi, range_map_getD _ _ _ _ hi]
    by_cases e : n = i
    · subst e; simp
    · by_cases g : i < n
      · simp [e, g, show i < n + 1 by omega]
      · simp [e, g, show ¬ i < n + 1 by omega]
theorem outM_end (h : List (List Edt)) : outM h h.length = matN h := by
  unfold outM matN
  apply List.map_congr_left
  intro i hi
  rw [if_pos (List.mem_range.1 hi)]
theorem outM_get (h : List (List Edt)) {n k : Nat} (hn : n < h.length) (hk : k < n) (r : List Bool) : ((outM h n).set n r).getD k [] = rowN h k := by
  rw [getD_setL (by rw [outM_len]; omega), if_neg (by omega)]
  unfold outM
  rw [range_map_getD _ _ _ _ (by omega), if_pos hk]
theorem outM_at (h : List (List Edt)) {n : Nat} (hn : n < h.length) (r : List Bool) : ((outM h n).set n r).getD n [] = r := by
  rw [getD_setL (by rw [outM_len]; omega), if_pos rfl]
def rowP (h : List (List Edt)) (n k j : Nat) : Bool := (decide (j < k) && tch h j n) || (List.range k).any fun i => tch h i n && need h i j
theorem rowP_end (h : List (List Edt)) (n j : Nat) : rowP h n n j = need h n j := by
  rw [Bool.eq_iff_iff, need_iff]
  unfold rowP
  simp only [Bool.or_eq_true, Bool.and_eq_true, decide_eq_true_eq, List.any_eq_true, List.mem_range]
  constructor
  · rintro (⟨h1, h2⟩ | ⟨i, h1, h2, h3⟩)
    · exact ⟨h1, .inl h2⟩
    · exact ⟨by have := need_lt h3; omega, .inr ⟨i, h1, h2, h3⟩⟩
  · rintro ⟨h1, h2 | ⟨i, h3, h4, h5⟩⟩
    · exact .inl ⟨h1, h2⟩
    · exact .inr ⟨i, h3, h4, h5⟩
theorem rowP_skip {h : List (List Edt)} {n k : Nat} (e : tch h k n = false) (j : Nat) : rowP h n (k + 1) j = rowP h n k j := by
  unfold rowP
  rw [List.range_succ, List.any_append]
  simp only [List.any_cons, List.any_nil, e, Bool.false_and, Bool.or_false]
  congr 1
  by_cases g : j = k
  · subst g; simp [e]
  · rw [show decide (j < k + 1) = decide (j < k) by simp; omega]
theorem rowP_take {h : List (List Edt)} {n k : Nat} (e : tch h k n = true) (j : Nat) : rowP h n (k + 1) j = (rowP h n k j || decide (j = k) || (decide (j < k) && need h k j)) := by
  unfold rowP
  rw [List.range_succ, List.any_append]
  simp only [List.any_cons, List.any_nil, e, Bool.true_and, Bool.or_false]
  have hn : (decide (j < k) && need h k j) = need h k j := by
    cases q : need h k j
    · simp
    · have := need_lt q; simp [this]
  rw [hn]
  by_cases g : j = k
  · subst g; simp [e]
  · rw [show decide (j < k + 1) = decide (j < k) by simp; omega]
    simp [g, Bool.or_assoc]
end Go.Tk
