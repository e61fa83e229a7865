/- Merged: P1 C1 P8 C8 P8d C8d P8e C8e C8f C8g C8h P8i P8x. -/
import Derived.Test.YtmedjckknalpbaaTy
import Derived.Test.YtmedjckknalpbaaEngW
import Derived.Shelf.SortM.Plain
import Derived.Shelf.SortM.SortNone
import Derived.Ground.SlgmProg
import Derived.WalkKit
import Derived.Defers
import Derived.Recover
/- Plain facts: lists, numbers, and what the functions of layer 1 (code) give. No program in sight. -/
set_option linter.unusedSimpArgs false
set_option linter.unusedVariables false
namespace Go.Tk
open Go Go.RowKit

/-- From the end down: for loops that count up. -/
theorem upto {n : Nat} {Q : Nat → Prop} (last : Q n) (step : ∀ i, i < n → Q (i + 1) → Q i) : ∀ i, i ≤ n → Q i := by
  intro i hi
  obtain ⟨k, rfl⟩ : ∃ k, n = i + k := ⟨n - i, by omega⟩
  clear hi
  induction k generalizing i with
  | zero => exact last
  | succ k ih =>
    have e : i + (k + 1) = i + 1 + k := by omega
    rw [e] at last step
    exact step i (by omega) (ih (i + 1) last step)

theorem all_take_next {α : Type} {p : α → Bool} {l : List α} {i : Nat} (d : α) (h : i < l.length) (h1 : (l.take i).all p = true) (h2 : p (l.getD i d) = true) : (l.take (i + 1)).all p = true := by
  rw [take_snoc d h, List.all_append, h1]; simp only [List.all_cons, h2]; rfl

theorem all_false_at {α : Type} {p : α → Bool} {l : List α} {i : Nat} (d : α) (h : i < l.length) (h2 : p (l.getD i d) = false) : l.all p = false := by
  rw [List.all_eq_false]
  refine ⟨l[i], List.getElem_mem h, ?_⟩
  simp [List.getD_eq_getElem?_getD, h] at h2
  simp [h2]

theorem mem_getD {α : Type} {d : α} {l : List α} {i : Nat} (h : i < l.length) : l.getD i d ∈ l := by
  simp [List.getD_eq_getElem?_getD, h]

theorem findIdx?_at {α : Type} {p : α → Bool} {l : List α} {i : Nat} (d : α) (h : i < l.length) (h1 : (l.take i).any p = false) (h2 : p (l.getD i d) = true) : l.findIdx? p = some i := by
  rw [List.findIdx?_eq_some_iff_getElem]
  refine ⟨h, by simpa [List.getD_eq_getElem?_getD, h] using h2, fun j hj => ?_⟩
  rw [List.any_eq_false] at h1
  have := h1 (l[j]) (by rw [List.mem_take_iff_getElem]; exact ⟨j, by omega, rfl⟩)
  simpa using this

theorem any_take_next {α : Type} {p : α → Bool} {l : List α} {i : Nat} (d : α) (h : i < l.length) (h1 : (l.take i).any p = false) (h2 : p (l.getD i d) = false) : (l.take (i + 1)).any p = false := by
  rw [take_snoc d h, List.any_append, h1]; simp only [List.any_cons, h2]; rfl

/-- The place of the first element with a property, as Go gives it. -/
def idxF {α : Type} (p : α → Bool) (l : List α) : Int := match l.findIdx? p with | some i => (i : Int) | none => -1

theorem idxF_any {α : Type} (p : α → Bool) (l : List α) : decide (idxF p l ≥ 0) = l.any p := by
  unfold idxF
  cases h : l.findIdx? p with
  | none =>
    rw [List.findIdx?_eq_none_iff] at h
    have : l.any p = false := by rw [List.any_eq_false]; intro x hx; simp [h x hx]
    rw [this]; rfl
  | some i =>
    rw [List.findIdx?_eq_some_iff_getElem] at h
    obtain ⟨h1, h2, _⟩ := h
    have : l.any p = true := List.any_eq_true.2 ⟨_, List.getElem_mem h1, h2⟩
    rw [this]
    simp

theorem idxF_at {α : Type} {p : α → Bool} {l : List α} {i : Nat} (d : α) (h : i < l.length) (h1 : (l.take i).any p = false) (h2 : p (l.getD i d) = true) : idxF p l = i := by
  unfold idxF; rw [findIdx?_at d h h1 h2]

theorem idxF_none {α : Type} {p : α → Bool} {l : List α} (h1 : l.any p = false) : idxF p l = -1 := by
  unfold idxF
  rw [List.findIdx?_eq_none_iff.2 (by intro x hx; rw [List.any_eq_false] at h1; simpa using h1 x hx)]

theorem any_not_all {α : Type} (p : α → Bool) (l : List α) : (l.any fun x => !p x) = !l.all p := by
  induction l with
  | nil => rfl
  | cons a l ih => simp [ih]

theorem beq_dec (a b : Int) : (a == b) = decide (a = b) := by by_cases h : a = b <;> simp [h]

theorem take_eq_next {α : Type} {a b : List α} {i : Nat} (d : α) (h : i < a.length) (hl : a.length = b.length) (h1 : a.take i = b.take i) (h2 : a.getD i d = b.getD i d) : a.take (i + 1) = b.take (i + 1) := by
  rw [take_snoc d h, take_snoc d (by omega), h1, h2]

theorem ne_at {α : Type} {a b : List α} {i : Nat} (d : α) (h2 : a.getD i d ≠ b.getD i d) : a ≠ b := fun e => h2 (by rw [e])

/-! ### Layer 1 -/
def within (n lo hi : Int) : Bool := decide (lo ≤ n) && decide (n ≤ hi)
def isReg (n : Int) : Bool := within n 0 3
def argErr (b : Bool) : Int := bif b then 0 else 1
def isVal (n : Int) : Bool := within n (-999) 999
def validS (s : List Int) : Bool := decide (s.length = 4) && s.all isVal

theorem within_iff {n lo hi : Int} : within n lo hi = true ↔ lo ≤ n ∧ n ≤ hi := by
  simp [within]

theorem argErr_zero {b : Bool} : argErr b = 0 ↔ b = true := by cases b <;> simp [argErr]

end Go.Tk
set_option linter.unusedSimpArgs false
set_option linter.unusedVariables false
namespace Go.Tk
open Go Go.RowKit

theorem idx_nat {i n : Nat} (h : i < n) : idx (i : Int) (n : Int) := ⟨by omega, by omega⟩
theorem inI_succ {i n : Nat} (h : i < n) (hn : n ≤ 140737488355328) : inI ((i : Int) + 1) := by unfold inI; omega

abbrev cIndexI : Con := { A := (.cons (.sl .int) (.cons (.fn (.cons .int .nil) (.cons .bool .nil)) .nil)), R := (.cons .int .nil), pre := fun x => ∀ r, inI r → x.2.1.1 (r, ()), F := fun x => (idxF (fun r => (x.2.1.2 (r, ())).1) x.1, ()) }
def cIndexI_0 (Λ1 : Int → Prop) (s : (List Int)) (f : (T.fn (.cons .int .nil) (.cons .bool .nil)).den) (y0 : Int) : Prop :=
  Λ1 (0 : Int)
def cIndexI_1 (Λ1 : Int → Prop) (s : (List Int)) (f : (T.fn (.cons .int .nil) (.cons .bool .nil)).den) (y0 : Int)  (t8_1 : Int) : Prop :=
  if (decide (t8_1 < (List.length s : Int))) = true then (idx t8_1 (List.length s : Int) ∧ (f.1 ((List.getD s (Int.toNat t8_1) 0), ()) ∧ (if ((f.2 ((List.getD s (Int.toNat t8_1) 0), ())).1) = true then (t8_1 = y0 ∧ True) else (inI (t8_1 + (1 : Int)) ∧ Λ1 (t8_1 + (1 : Int)))))) else ((-1 : Int) = y0 ∧ True)
theorem cIndexI_law (h : ∀ (s : (List Int)) (f : (T.fn (.cons .int .nil) (.cons .bool .nil)).den), cIndexI.A.wf (s, f, ()) → (∀ r, inI r → f.1 (r, ())) → ∀ (Λ1 : Int → Prop), (∀ (t8_1 : Int), cIndexI_1 Λ1 s f (idxF (fun r => (f.2 (r, ())).1) s) t8_1 → Λ1 t8_1) → cIndexI_0 Λ1 s f (idxF (fun r => (f.2 (r, ())).1) s)) : ConOK Go.Proofs.Try.prog 106 cIndexI := by
  refine lawL (Γ := []) (Θ := Th) (n := 19) [([1, 0, 1, 0], ⟨[(0, false), (1, false), (7, true), (8, true)], []⟩)] trivial (by kernel_rfl) th_ok mix_ok Go.Proofs.Try.func106 (by kernel_rfl) ?_
  intro x hw hp Λ hC
  have h0 := h x.1 x.2.1 hw hp (fun t8_1 => Λ [1, 0, 1, 0] ([(0, .d false (.sl .int) x.1), (1, .d false (.fn (.cons .int .nil) (.cons .bool .nil)) x.2.1), (7, .d true .int (List.length x.1 : Int)), (8, .d true .int t8_1)], [])) (fun t8_1 hb => hC [1, 0, 1, 0] ([(0, .d false (.sl .int) x.1), (1, .d false (.fn (.cons .int .nil) (.cons .bool .nil)) x.2.1), (7, .d true .int (List.length x.1 : Int)), (8, .d true .int t8_1)], []) (Eq.mpr (by kernel_rfl) hb))
  exact Eq.mpr (by kernel_rfl) h0
theorem cIndexI_ok : ConOK Go.Proofs.Try.prog 106 cIndexI := by
  refine cIndexI_law ?_
  intro s f hw hp Λ1 h1
  unfold cIndexI_0
  refine upto (n := s.length) (Q := fun i => (s.take i).any (fun r => (f.2 (r, ())).1) = false → Λ1 i) ?_ ?_ 0 (Nat.zero_le _) rfl
  · intro ha
    rw [List.take_length] at ha
    apply h1; unfold cIndexI_1; rw [if_neg (by simp), idxF_none ha]
    exact ⟨rfl, trivial⟩
  · intro i hi ih ha
    apply h1; unfold cIndexI_1; rw [if_pos (by simpa using hi), Int.toNat_natCast]
    refine ⟨idx_nat hi, hp _ (hw.1.2 _ (mem_getD hi)), ?_⟩
    cases hv : (f.2 (List.getD s i 0, ())).1
    · rw [if_neg (by simp)]
      exact ⟨inI_succ hi hw.1.1, ih (any_take_next (p := fun r => (f.2 (r, ())).1) 0 hi ha hv)⟩
    · rw [if_pos (by rfl), idxF_at (p := fun r => (f.2 (r, ())).1) 0 hi ha hv]
      exact ⟨rfl, trivial⟩
abbrev cContI : Con := { A := (.cons (.sl .int) (.cons (.fn (.cons .int .nil) (.cons .bool .nil)) .nil)), R := (.cons .bool .nil), pre := fun x => ∀ r, inI r → x.2.1.1 (r, ()), F := fun x => (x.1.any (fun r => (x.2.1.2 (r, ())).1), ()) }
def cContI_0  (s : (List Int)) (f : (T.fn (.cons .int .nil) (.cons .bool .nil)).den) (y0 : Bool) : Prop :=
  (∀ r, inI r → f.1 (r, ())) ∧ ((decide ((idxF (fun r => (f.2 (r, ())).1) s) ≥ (0 : Int))) = y0 ∧ True)
theorem cContI_law (h : ∀ (s : (List Int)) (f : (T.fn (.cons .int .nil) (.cons .bool .nil)).den), cContI.A.wf (s, f, ()) → (∀ r, inI r → f.1 (r, ())) → cContI_0  s f (s.any (fun r => (f.2 (r, ())).1))) : ConOK Go.Proofs.Try.prog 73 cContI := by
  refine lawL (Γ := [(106, cIndexI)]) (Θ := Th) (n := 9) [] ⟨cIndexI_ok, trivial⟩ (by kernel_rfl) th_ok mix_ok Go.Proofs.Try.func73 (by kernel_rfl) ?_
  intro x hw hp Λ hC
  have h0 := h x.1 x.2.1 hw hp  
  exact Eq.mpr (by kernel_rfl) h0
theorem cContI_ok : ConOK Go.Proofs.Try.prog 73 cContI := by
  refine cContI_law ?_
  intro s f hw hp
  unfold cContI_0
  exact ⟨hp, idxF_any _ _, trivial⟩
/-! The reference's -/
end Go.Tk
/- Plain facts of layer 8: suites. No program in sight. -/
set_option linter.unusedSimpArgs false
set_option linter.unusedVariables false
namespace Go.Tk
open Go Go.RowKit

abbrev Ste := List (List Int)
def goals8 (t : Ste) : Nat := (t.getD 0 []).length
def is01 (n : Int) : Bool := within n 0 1
def rowOk (t : Ste) (r : List Int) : Bool := decide (r.length = goals8 t) && r.all is01
def validT (t : Ste) : Int := if t.length > 8 ∨ goals8 t > 10 then 3 else argErr (t.all (rowOk t))
def isSet8 (l : List Int) (n : Nat) : Bool := (List.range l.length).all fun i => decide (0 ≤ l.getD i 0) && decide (l.getD i 0 < n) && (decide (i = 0) || decide (l.getD (i - 1) 0 < l.getD i 0))
def rowsT (t : Ste) (l : List Int) : Int := if validT t = 0 then argErr (isSet8 l t.length) else validT t
def nums (n : Nat) : List Int := (List.range n).map Int.ofNat
def hits (t : Ste) (r : Int) (g : Nat) : Bool := (t.getD r.toNat []).getD g 0 == 1
def metL (t : Ste) (l : List Int) : List Int := ((List.range (goals8 t)).filter fun g => l.any fun r => hits t r g).map Int.ofNat
def openL (t : Ste) : List Int := metL t (nums t.length)
def coverB (t : Ste) (l : List Int) : Bool := decide ((metL t l).length = (openL t).length)
def okT (t : Ste) : Prop := t.length ≤ 8 ∧ goals8 t ≤ 10 ∧ ∀ r ∈ t, r.length = goals8 t ∧ ∀ x ∈ r, x = 0 ∨ x = 1
def inT (t : Ste) (l : List Int) : Prop := ∀ r ∈ l, 0 ≤ r ∧ r < t.length

theorem is01_iff {n : Int} : is01 n = true ↔ n = 0 ∨ n = 1 := by
  unfold is01; rw [within_iff]; omega

theorem validT_ok {t : Ste} : validT t = 0 ↔ okT t := by
  unfold validT okT
  split
  · rename_i h
    constructor
    · intro h; omega
    · intro h; omega
  · rename_i h
    rw [argErr_zero, List.all_eq_true]
    constructor
    · intro ha
      refine ⟨by omega, by omega, fun r hr => ?_⟩
      have := ha r hr
      unfold rowOk at this
      rw [Bool.and_eq_true, decide_eq_true_eq, List.all_eq_true] at this
      exact ⟨this.1, fun x hx => is01_iff.1 (this.2 x hx)⟩
    · rintro ⟨_, _, ha⟩ r hr
      unfold rowOk
      rw [Bool.and_eq_true, decide_eq_true_eq, List.all_eq_true]
      exact ⟨(ha r hr).1, fun x hx => is01_iff.2 ((ha r hr).2 x hx)⟩

theorem okT_row {t : Ste} (h : okT t) {i : Nat} (hi : i < t.length) : (t.getD i []).length = goals8 t := (h.2.2 _ (mem_getD hi)).1

theorem nums_len (n : Nat) : (nums n).length = n := by simp [nums]
theorem nums_mem {n : Nat} {r : Int} : r ∈ nums n ↔ 0 ≤ r ∧ r < n := by
  unfold nums
  simp only [List.mem_map, List.mem_range, Int.ofNat_eq_natCast]
  constructor
  · rintro ⟨a, h, rfl⟩; omega
  · intro h; exact ⟨r.toNat, by omega, by omega⟩
theorem nums_succ (n : Nat) : nums (n + 1) = nums n ++ [(n : Int)] := by simp [nums, List.range_succ]
theorem nums_in (t : Ste) : inT t (nums t.length) := fun r h => nums_mem.1 h
theorem metL_len (t : Ste) (l : List Int) : (metL t l).length ≤ goals8 t := by
  unfold metL
  rw [List.length_map]
  exact Nat.le_trans (List.length_filter_le ..) (by simp)
theorem metL_mem {t : Ste} {l : List Int} {g : Int} (h : g ∈ metL t l) : 0 ≤ g ∧ g < goals8 t := by
  unfold metL at h
  simp only [List.mem_map, List.mem_filter, List.mem_range, Int.ofNat_eq_natCast] at h
  obtain ⟨a, ⟨h1, _⟩, rfl⟩ := h
  omega

theorem isSet8_iff {l : List Int} {n : Nat} : isSet8 l n = true ↔ ∀ i, i < l.length → (0 ≤ l.getD i 0 ∧ l.getD i 0 < n) ∧ (i = 0 ∨ l.getD (i - 1) 0 < l.getD i 0) := by
  unfold isSet8
  simp only [List.all_eq_true, List.mem_range, Bool.and_eq_true, Bool.or_eq_true, decide_eq_true_eq]

theorem isSet8_in {t : Ste} {l : List Int} (h : isSet8 l t.length = true) : inT t l := by
  intro r hr
  obtain ⟨i, hi, e⟩ := List.mem_iff_getElem.1 hr
  have := ((isSet8_iff.1 h) i hi).1
  rw [List.getD_eq_getElem?_getD, List.getElem?_eq_getElem hi, Option.getD_some, e] at this
  exact this

/-- The loop that gathers the goals. -/
def metK (t : Ste) (l : List Int) (k : Nat) : List Int := ((List.range k).filter fun g => l.any fun r => hits t r g).map Int.ofNat
theorem metK_succ (t : Ste) (l : List Int) (k : Nat) : metK t l (k + 1) = if (l.any fun r => hits t r k) = true then metK t l k ++ [(k : Int)] else metK t l k := by
  unfold metK
  rw [List.range_succ, List.filter_append, List.map_append]
  cases h : (l.any fun r => hits t r k) <;> simp [h]
theorem metK_len (t : Ste) (l : List Int) (k : Nat) : (metK t l k).length ≤ k := by
  unfold metK
  rw [List.length_map]
  exact Nat.le_trans (List.length_filter_le ..) (by simp)

end Go.Tk
set_option linter.unusedSimpArgs false
set_option linter.unusedVariables false
set_option linter.unnecessarySimpa false
namespace Go.Tk
open Go Go.RowKit

abbrev cWithin8 : Con := { A := (.cons .int (.cons .int (.cons .int .nil))), R := (.cons .bool .nil), pre := fun x => True, F := fun x => (within x.1 x.2.1 x.2.2.1, ()) }
def cWithin8_0  (n : Int) (lo : Int) (hi : Int) (y0 : Bool) : Prop :=
  if (decide (lo ≤ n)) = true then (True ∧ ((bif true then (decide (n ≤ hi)) else false) = y0 ∧ True)) else (false = false ∧ (false = y0 ∧ True))
theorem cWithin8_law (h : ∀ (n : Int) (lo : Int) (hi : Int), cWithin8.A.wf (n, lo, hi, ()) → cWithin8_0  n lo hi (within n lo hi)) : ConOK Go.Proofs.Try.prog 84 cWithin8 := by
  refine lawL (Γ := []) (Θ := Th) (n := 15) [] trivial (by kernel_rfl) th_ok mix_ok Go.Proofs.Try.func84 (by kernel_rfl) ?_
  intro x hw hp Λ hC
  have h0 := h x.1 x.2.1 x.2.2.1 hw  
  exact Eq.mpr (by kernel_rfl) h0
theorem cWithin8_ok : ConOK Go.Proofs.Try.prog 84 cWithin8 := by
  refine cWithin8_law ?_
  intro n lo hi hw
  unfold cWithin8_0
  unfold within
  split <;> simp_all
  omega
abbrev cIndexI8 : Con := { A := (.cons (.sl .int) (.cons (.fn (.cons .int .nil) (.cons .bool .nil)) .nil)), R := (.cons .int .nil), pre := fun x => ∀ r', r' ∈ x.1 → x.2.1.1 (r', ()), F := fun x => (idxF (fun r' => (x.2.1.2 (r', ())).1) x.1, ()) }
def cIndexI8_0 (Λ1 : Int → Prop) (s : (List Int)) (f : (T.fn (.cons .int .nil) (.cons .bool .nil)).den) (y0 : Int) : Prop :=
  Λ1 (0 : Int)
def cIndexI8_1 (Λ1 : Int → Prop) (s : (List Int)) (f : (T.fn (.cons .int .nil) (.cons .bool .nil)).den) (y0 : Int)  (t8_1 : Int) : Prop :=
  if (decide (t8_1 < (List.length s : Int))) = true then (idx t8_1 (List.length s : Int) ∧ (f.1 ((List.getD s (Int.toNat t8_1) 0), ()) ∧ (if ((f.2 ((List.getD s (Int.toNat t8_1) 0), ())).1) = true then (t8_1 = y0 ∧ True) else (inI (t8_1 + (1 : Int)) ∧ Λ1 (t8_1 + (1 : Int)))))) else ((-1 : Int) = y0 ∧ True)
theorem cIndexI8_law (h : ∀ (s : (List Int)) (f : (T.fn (.cons .int .nil) (.cons .bool .nil)).den), cIndexI8.A.wf (s, f, ()) → (∀ r', r' ∈ s → f.1 (r', ())) → ∀ (Λ1 : Int → Prop), (∀ (t8_1 : Int), cIndexI8_1 Λ1 s f (idxF (fun r' => (f.2 (r', ())).1) s) t8_1 → Λ1 t8_1) → cIndexI8_0 Λ1 s f (idxF (fun r' => (f.2 (r', ())).1) s)) : ConOK Go.Proofs.Try.prog 106 cIndexI8 := by
  refine lawL (Γ := []) (Θ := Th) (n := 19) [([1, 0, 1, 0], ⟨[(0, false), (1, false), (7, true), (8, true)], []⟩)] trivial (by kernel_rfl) th_ok mix_ok Go.Proofs.Try.func106 (by kernel_rfl) ?_
  intro x hw hp Λ hC
  have h0 := h x.1 x.2.1 hw hp (fun t8_1 => Λ [1, 0, 1, 0] ([(0, .d false (.sl .int) x.1), (1, .d false (.fn (.cons .int .nil) (.cons .bool .nil)) x.2.1), (7, .d true .int (List.length x.1 : Int)), (8, .d true .int t8_1)], [])) (fun t8_1 hb => hC [1, 0, 1, 0] ([(0, .d false (.sl .int) x.1), (1, .d false (.fn (.cons .int .nil) (.cons .bool .nil)) x.2.1), (7, .d true .int (List.length x.1 : Int)), (8, .d true .int t8_1)], []) (Eq.mpr (by kernel_rfl) hb))
  exact Eq.mpr (by kernel_rfl) h0
theorem cIndexI8_ok : ConOK Go.Proofs.Try.prog 106 cIndexI8 := by
  refine cIndexI8_law ?_
  intro s f hw hp Λ1 h1
  unfold cIndexI8_0
  refine upto (n := s.length) (Q := fun i => (s.take i).any (fun r => (f.2 (r, ())).1) = false → Λ1 i) ?_ ?_ 0 (Nat.zero_le _) rfl
  · intro ha
    rw [List.take_length] at ha
    apply h1; unfold cIndexI8_1; rw [if_neg (by simp), idxF_none ha]
    exact ⟨rfl, trivial⟩
  · intro i hi ih ha
    apply h1; unfold cIndexI8_1; rw [if_pos (by simpa using hi), Int.toNat_natCast]
    refine ⟨idx_nat hi, hp _ (mem_getD hi), ?_⟩
    cases hv : (f.2 (List.getD s i 0, ())).1
    · rw [if_neg (by simp)]
      exact ⟨inI_succ hi hw.1.1, ih (any_take_next (p := fun r => (f.2 (r, ())).1) 0 hi ha hv)⟩
    · rw [if_pos (by rfl), idxF_at (p := fun r => (f.2 (r, ())).1) 0 hi ha hv]
      exact ⟨rfl, trivial⟩
abbrev cContI8 : Con := { A := (.cons (.sl .int) (.cons (.fn (.cons .int .nil) (.cons .bool .nil)) .nil)), R := (.cons .bool .nil), pre := fun x => ∀ r', r' ∈ x.1 → x.2.1.1 (r', ()), F := fun x => (x.1.any (fun r' => (x.2.1.2 (r', ())).1), ()) }
def cContI8_0  (s : (List Int)) (f : (T.fn (.cons .int .nil) (.cons .bool .nil)).den) (y0 : Bool) : Prop :=
  (∀ r', r' ∈ s → f.1 (r', ())) ∧ ((decide ((idxF (fun r' => (f.2 (r', ())).1) s) ≥ (0 : Int))) = y0 ∧ True)
theorem cContI8_law (h : ∀ (s : (List Int)) (f : (T.fn (.cons .int .nil) (.cons .bool .nil)).den), cContI8.A.wf (s, f, ()) → (∀ r', r' ∈ s → f.1 (r', ())) → cContI8_0  s f (s.any (fun r' => (f.2 (r', ())).1))) : ConOK Go.Proofs.Try.prog 73 cContI8 := by
  refine lawL (Γ := [(106, cIndexI8)]) (Θ := Th) (n := 9) [] ⟨cIndexI8_ok, trivial⟩ (by kernel_rfl) th_ok mix_ok Go.Proofs.Try.func73 (by kernel_rfl) ?_
  intro x hw hp Λ hC
  have h0 := h x.1 x.2.1 hw hp  
  exact Eq.mpr (by kernel_rfl) h0
theorem cContI8_ok : ConOK Go.Proofs.Try.prog 73 cContI8 := by
  refine cContI8_law ?_
  intro s f hw hp
  unfold cContI8_0
  exact ⟨hp, idxF_any _ _, trivial⟩
abbrev cGoals8 : Con := { A := (.cons (.sl (.sl .int)) .nil), R := (.cons .int .nil), pre := fun x => True, F := fun x => ((goals8 x.1 : Int), ()) }
def cGoals8_0  (t : (List (List Int))) (y0 : Int) : Prop :=
  if ((List.length t : Int) == (0 : Int)) = true then ((0 : Int) = y0 ∧ True) else (idx (0 : Int) (List.length t : Int) ∧ ((List.length (List.getD t (Int.toNat (0 : Int)) ([] : List Int)) : Int) = y0 ∧ True))
theorem cGoals8_law (h : ∀ (t : (List (List Int))), cGoals8.A.wf (t, ()) → cGoals8_0  t (goals8 t : Int)) : ConOK Go.Proofs.Try.prog 82 cGoals8 := by
  refine lawL (Γ := []) (Θ := Th) (n := 10) [] trivial (by kernel_rfl) th_ok mix_ok Go.Proofs.Try.func82 (by kernel_rfl) ?_
  intro x hw hp Λ hC
  have h0 := h x.1 hw  
  exact Eq.mpr (by kernel_rfl) h0
theorem cGoals8_ok : ConOK Go.Proofs.Try.prog 82 cGoals8 := by
  refine cGoals8_law ?_
  intro t hw
  unfold cGoals8_0
  unfold goals8
  cases t with
  | nil => exact ⟨rfl, trivial⟩
  | cons r t =>
    rw [if_neg (by simp; omega)]
    exact ⟨⟨by omega, by simp⟩, rfl, trivial⟩
abbrev cVal8a : Con := { A := (.cons .int .nil), R := (.cons .bool .nil), pre := fun x => True, F := fun x => (!(is01 x.1), ()) }
def cVal8a_0  (n : Int) (y0 : Bool) : Prop :=
  True ∧ ((!(within n (0 : Int) (1 : Int))) = y0 ∧ True)
theorem cVal8a_law (h : ∀ (n : Int), cVal8a.A.wf (n, ()) → cVal8a_0  n (!(is01 n))) : ConOK Go.Proofs.Try.prog 83 cVal8a := by
  refine lawL (Γ := [(84, cWithin8)]) (Θ := Th) (n := 6) [] ⟨cWithin8_ok, trivial⟩ (by kernel_rfl) th_ok mix_ok Go.Proofs.Try.func83 (by kernel_rfl) ?_
  intro x hw hp Λ hC
  have h0 := h x.1 hw  
  exact Eq.mpr (by kernel_rfl) h0
theorem cVal8a_ok : ConOK Go.Proofs.Try.prog 83 cVal8a := by
  refine cVal8a_law ?_
  intro n hw
  unfold cVal8a_0
  exact ⟨trivial, rfl, trivial⟩
theorem rowOk_any (t : Ste) (r : List Int) : rowOk t r = (decide (r.length = goals8 t) && !(r.any fun x => !is01 x)) := by
  unfold rowOk
  rw [any_not_all]; simp
abbrev cVal8 : Con := { A := (.cons (.sl (.sl .int)) .nil), R := (.cons .int .nil), pre := fun x => True, F := fun x => (validT x.1, ()) }
def cVal8_0 (Λ1 : Int → Prop) (t : (List (List Int))) (y0 : Int) : Prop :=
  if (decide ((List.length t : Int) > (8 : Int))) = true then (true = true ∧ ((3 : Int) = y0 ∧ True)) else (True ∧ (True ∧ (if (bif false then true else (decide (((goals8 t : Int)) > (10 : Int)))) = true then ((3 : Int) = y0 ∧ True) else Λ1 (0 : Int))))
def cVal8_1 (Λ1 : Int → Prop) (t : (List (List Int))) (y0 : Int)  (t15_1 : Int) : Prop :=
  if (decide (t15_1 < (List.length t : Int))) = true then (idx t15_1 (List.length t : Int) ∧ (True ∧ (if ((List.length (List.getD t (Int.toNat t15_1) ([] : List Int)) : Int) != ((goals8 t : Int))) = true then (true = true ∧ ((1 : Int) = y0 ∧ True)) else ((∀ r', r' ∈ (List.getD t (Int.toNat t15_1) ([] : List Int)) → (fun (xx : (Int × Unit)) => True, fun (xx : (Int × Unit)) => (!(is01 xx.1), ())).1 (r', ())) ∧ (True ∧ (if (bif false then true else ((List.getD t (Int.toNat t15_1) ([] : List Int)).any (fun r' => ((fun (xx : (Int × Unit)) => True, fun (xx : (Int × Unit)) => (!(is01 xx.1), ())).2 (r', ())).1))) = true then ((1 : Int) = y0 ∧ True) else (inI (t15_1 + (1 : Int)) ∧ Λ1 (t15_1 + (1 : Int))))))))) else ((0 : Int) = y0 ∧ True)
theorem cVal8_law (h : ∀ (t : (List (List Int))), cVal8.A.wf (t, ()) → ∀ (Λ1 : Int → Prop), (∀ (t15_1 : Int), cVal8_1 Λ1 t (validT t) t15_1 → Λ1 t15_1) → cVal8_0 Λ1 t (validT t)) : ConOK Go.Proofs.Try.prog 35 cVal8 := by
  refine lawL (Γ := [(73, cContI8), (82, cGoals8), (83, cVal8a)]) (Θ := Th) (n := 29) [([1, 1, 0, 1, 0], ⟨[(0, false), (13, false), (14, true), (15, true)], []⟩)] ⟨cContI8_ok, cGoals8_ok, cVal8a_ok, trivial⟩ (by kernel_rfl) th_ok mix_ok Go.Proofs.Try.func35 (by kernel_rfl) ?_
  intro x hw hp Λ hC
  have h0 := h x.1 hw (fun t15_1 => Λ [1, 1, 0, 1, 0] ([(0, .d false (.sl (.sl .int)) x.1), (13, .d false (.sl (.sl .int)) x.1), (14, .d true .int (List.length x.1 : Int)), (15, .d true .int t15_1)], [])) (fun t15_1 hb => hC [1, 1, 0, 1, 0] ([(0, .d false (.sl (.sl .int)) x.1), (13, .d false (.sl (.sl .int)) x.1), (14, .d true .int (List.length x.1 : Int)), (15, .d true .int t15_1)], []) (Eq.mpr (by kernel_rfl) hb))
  exact Eq.mpr (by kernel_rfl) h0
theorem cVal8_ok : ConOK Go.Proofs.Try.prog 35 cVal8 := by
  refine cVal8_law ?_
  intro t hw Λ1 h1
  unfold cVal8_0
  have hl : t.length ≤ 140737488355328 := hw.1.1
  by_cases h8 : t.length > 8
  · rw [if_pos (by simp; omega)]
    refine ⟨rfl, ?_, trivial⟩
    unfold validT; rw [if_pos (.inl h8)]
  rw [if_neg (by simp; omega)]
  refine ⟨trivial, trivial, ?_⟩
  by_cases h10 : goals8 t > 10
  · rw [if_pos (by simp; omega)]
    refine ⟨?_, trivial⟩
    unfold validT; rw [if_pos (.inr h10)]
  rw [if_neg (by simp; omega)]
  refine upto (n := t.length) (Q := fun i => (t.take i).all (rowOk t) = true → Λ1 i) ?_ ?_ 0 (Nat.zero_le _) rfl
  · intro ha
    rw [List.take_length] at ha
    apply h1; unfold cVal8_1; rw [if_neg (by simp)]
    refine ⟨?_, trivial⟩
    unfold validT; rw [if_neg (by omega), ha]; rfl
  · intro i hi ih ha
    apply h1; unfold cVal8_1; rw [if_pos (by simpa using hi)]
    refine ⟨idx_nat hi, trivial, ?_⟩
    rw [Int.toNat_natCast]
    have hbad : rowOk t (t.getD i []) = false → (1 : Int) = validT t := by
      intro hv
      unfold validT
      rw [if_neg (by omega), all_false_at (p := rowOk t) [] hi hv]
      rfl
    have hnext : rowOk t (t.getD i []) = true → Λ1 ((i : Int) + 1) := fun hv => ih (all_take_next [] hi ha hv)
    have hin := inI_succ hi hl
    generalize t.getD i [] = r at hbad hnext ⊢
    by_cases hg : r.length = goals8 t
    · rw [if_neg (by simp [hg])]
      refine ⟨fun _ _ => trivial, trivial, ?_⟩
      have e : rowOk t r = !(r.any fun x => !is01 x) := by rw [rowOk_any]; simp [hg]
      cases hv : (r.any fun x => !is01 x)
      · rw [if_neg (by simpa using hv)]
        exact ⟨hin, hnext (by rw [e, hv]; rfl)⟩
      · rw [if_pos (by simpa using hv)]
        exact ⟨hbad (by rw [e, hv]; rfl), trivial⟩
    · rw [if_pos (by simp; omega)]
      exact ⟨rfl, hbad (by unfold rowOk; simp [hg]), trivial⟩
theorem isSet_step {l : List Int} {n i : Nat} (hi : i < l.length) : ((List.range l.length).all fun i => decide (0 ≤ l.getD i 0) && decide (l.getD i 0 < n) && (decide (i = 0) || decide (l.getD (i - 1) 0 < l.getD i 0))) = isSet8 l n := rfl
def setAt (l : List Int) (n i : Nat) : Bool := decide (0 ≤ l.getD i 0) && decide (l.getD i 0 < n) && (decide (i = 0) || decide (l.getD (i - 1) 0 < l.getD i 0))
theorem isSet8_upto {l : List Int} {n : Nat} {i : Nat} (h : ∀ k, k < i → setAt l n k = true) (hs : setAt l n i = true) : ∀ k, k < i + 1 → setAt l n k = true := by
  intro k hk
  rcases Nat.lt_or_ge k i with g | g
  · exact h k g
  · obtain rfl : k = i := by omega
    exact hs
theorem isSet8_all {l : List Int} {n : Nat} (h : ∀ k, k < l.length → setAt l n k = true) : isSet8 l n = true := by
  unfold isSet8
  simp only [List.all_eq_true, List.mem_range]
  exact h
theorem isSet8_bad {l : List Int} {n i : Nat} (hi : i < l.length) (h : setAt l n i = false) : isSet8 l n = false := by
  unfold isSet8
  rw [Bool.eq_false_iff]
  intro ha
  simp only [List.all_eq_true, List.mem_range] at ha
  have := ha i hi
  unfold setAt at h
  rw [h] at this
  cases this
abbrev cRows8 : Con := { A := (.cons (.sl (.sl .int)) (.cons (.sl .int) .nil)), R := (.cons .int .nil), pre := fun x => True, F := fun x => (rowsT x.1 x.2.1, ()) }
def cRows8_0 (Λ1 : Int → Prop) (t : (List (List Int))) (set_ : (List Int)) (y0 : Int) : Prop :=
  True ∧ (if ((validT t) != (0 : Int)) = true then ((validT t) = y0 ∧ True) else Λ1 (0 : Int))
def cRows8_1 (Λ1 : Int → Prop) (t : (List (List Int))) (set_ : (List Int)) (y0 : Int)  (t15_1 : Int) : Prop :=
  if (decide (t15_1 < (List.length set_ : Int))) = true then (idx t15_1 (List.length set_ : Int) ∧ (inI ((List.length t : Int) - (1 : Int)) ∧ (True ∧ (if (!(within (List.getD set_ (Int.toNat t15_1) 0) (0 : Int) ((List.length t : Int) - (1 : Int)))) = true then (true = true ∧ ((1 : Int) = y0 ∧ True)) else (if (decide (t15_1 > (0 : Int))) = true then (inI (t15_1 - (1 : Int)) ∧ (idx (t15_1 - (1 : Int)) (List.length set_ : Int) ∧ (True ∧ (True ∧ (if (bif false then true else (bif true then (decide ((List.getD set_ (Int.toNat (t15_1 - (1 : Int))) 0) ≥ (List.getD set_ (Int.toNat t15_1) 0))) else false)) = true then ((1 : Int) = y0 ∧ True) else (inI (t15_1 + (1 : Int)) ∧ Λ1 (t15_1 + (1 : Int)))))))) else (false = false ∧ (True ∧ (if (bif false then true else false) = true then ((1 : Int) = y0 ∧ True) else (inI (t15_1 + (1 : Int)) ∧ Λ1 (t15_1 + (1 : Int))))))))))) else ((0 : Int) = y0 ∧ True)
theorem cRows8_law (h : ∀ (t : (List (List Int))) (set_ : (List Int)), cRows8.A.wf (t, set_, ()) → ∀ (Λ1 : Int → Prop), (∀ (t15_1 : Int), cRows8_1 Λ1 t set_ (rowsT t set_) t15_1 → Λ1 t15_1) → cRows8_0 Λ1 t set_ (rowsT t set_)) : ConOK Go.Proofs.Try.prog 78 cRows8 := by
  refine lawL (Γ := [(35, cVal8), (84, cWithin8)]) (Θ := Th) (n := 40) [([1, 1, 0, 1, 0], ⟨[(0, false), (1, false), (13, false), (14, true), (15, true)], []⟩)] ⟨cVal8_ok, cWithin8_ok, trivial⟩ (by kernel_rfl) th_ok mix_ok Go.Proofs.Try.func78 (by kernel_rfl) ?_
  intro x hw hp Λ hC
  have h0 := h x.1 x.2.1 hw (fun t15_1 => Λ [1, 1, 0, 1, 0] ([(0, .d false (.sl (.sl .int)) x.1), (1, .d false (.sl .int) x.2.1), (13, .d false (.sl .int) x.2.1), (14, .d true .int (List.length x.2.1 : Int)), (15, .d true .int t15_1)], [])) (fun t15_1 hb => hC [1, 1, 0, 1, 0] ([(0, .d false (.sl (.sl .int)) x.1), (1, .d false (.sl .int) x.2.1), (13, .d false (.sl .int) x.2.1), (14, .d true .int (List.length x.2.1 : Int)), (15, .d true .int t15_1)], []) (Eq.mpr (by kernel_rfl) hb))
  exact Eq.mpr (by kernel_rfl) h0
theorem cRows8_ok : ConOK Go.Proofs.Try.prog 78 cRows8 := by
  refine cRows8_law ?_
  intro t set_ hw Λ1 h1
  unfold cRows8_0
  have hl : set_.length ≤ 140737488355328 := hw.2.1.1
  have ht : t.length ≤ 140737488355328 := hw.1.1
  refine ⟨trivial, ?_⟩
  by_cases h0 : validT t = 0
  · rw [if_neg (by simp [h0])]
    have hr : rowsT t set_ = argErr (isSet8 set_ t.length) := by unfold rowsT; rw [if_pos h0]
    rw [hr] at h1
    refine upto (n := set_.length) (Q := fun i => (∀ k, k < i → setAt set_ t.length k = true) → Λ1 i) ?_ ?_ 0 (Nat.zero_le _) (fun k h => by omega)
    · intro ha
      apply h1; unfold cRows8_1; rw [if_neg (by simp)]
      rw [isSet8_all ha]
      exact ⟨rfl, trivial⟩
    · intro i hi ih ha
      apply h1; unfold cRows8_1; rw [if_pos (by simpa using hi)]
      refine ⟨idx_nat hi, by unfold inI; omega, trivial, ?_⟩
      rw [Int.toNat_natCast]
      have hbad : setAt set_ t.length i = false → (1 : Int) = argErr (isSet8 set_ t.length) := fun h => by rw [isSet8_bad hi h]; rfl
      have hnext : setAt set_ t.length i = true → Λ1 ((i : Int) + 1) := fun h => ih (isSet8_upto ha h)
      have hin := inI_succ hi hl
      unfold setAt at hbad hnext
      by_cases hi0 : i = 0
      · subst hi0
        simp only [Nat.zero_sub] at hbad hnext
        generalize set_.getD 0 0 = x at hbad hnext ⊢
        by_cases hwi : within x 0 ((t.length : Int) - 1) = true
        · rw [if_neg (by simp [hwi]), if_neg (by simp)]
          rw [within_iff] at hwi
          refine ⟨rfl, trivial, ?_⟩
          rw [if_neg (by simp)]
          refine ⟨by unfold inI; omega, hnext ?_⟩
          simp; omega
        · rw [if_pos (by simp [hwi])]
          rw [within_iff] at hwi
          refine ⟨rfl, hbad ?_, trivial⟩
          simp; omega
      · generalize hx : set_.getD i 0 = x at hbad hnext ⊢
        by_cases hwi : within x 0 ((t.length : Int) - 1) = true
        · rw [if_neg (by simp [hwi]), if_pos (by simp; omega)]
          rw [within_iff] at hwi
          refine ⟨by unfold inI; omega, ⟨by omega, by omega⟩, trivial, trivial, ?_⟩
          rw [show ((i : Int) - 1).toNat = i - 1 by omega]
          generalize set_.getD (i - 1) 0 = y at hbad hnext ⊢
          by_cases hlt : y < x
          · rw [if_neg (by simp; omega)]
            refine ⟨hin, hnext ?_⟩
            simp; omega
          · rw [if_pos (by simp; omega)]
            refine ⟨hbad ?_, trivial⟩
            simp; omega
        · rw [if_pos (by simp [hwi])]
          rw [within_iff] at hwi
          refine ⟨rfl, hbad ?_, trivial⟩
          simp; omega
  · rw [if_pos (by simp [h0])]
    refine ⟨?_, trivial⟩
    unfold rowsT; rw [if_neg h0]
abbrev cAll8 : Con := { A := (.cons .int .nil), R := (.cons (.osl .int) .nil), pre := fun x => 0 ≤ x.1 ∧ x.1 ≤ 4294967296, F := fun x => (nums x.1.toNat, ()) }
def cAll8_0 (Λ1 : Int → (List Int) → Prop) (n : Int) (y0 : (List Int)) : Prop :=
  Λ1 (0 : Int) ([] : List Int)
def cAll8_1 (Λ1 : Int → (List Int) → Prop) (n : Int) (y0 : (List Int))  (t6_1 : Int) (out_1 : (List Int)) : Prop :=
  if (decide (t6_1 < n)) = true then (List.length out_1 + List.length [t6_1] ≤ 4294967296 ∧ (inI (t6_1 + (1 : Int)) ∧ Λ1 (t6_1 + (1 : Int)) (out_1 ++ [t6_1]))) else out_1 = y0
theorem cAll8_law (h : ∀ (n : Int), cAll8.A.wf (n, ()) → (0 ≤ n ∧ n ≤ 4294967296) → ∀ (Λ1 : Int → (List Int) → Prop), (∀ (t6_1 : Int) (out_1 : (List Int)), cAll8_1 Λ1 n (nums n.toNat) t6_1 out_1 → Λ1 t6_1 out_1) → cAll8_0 Λ1 n (nums n.toNat)) : ConOK Go.Proofs.Try.prog 67 cAll8 := by
  refine lawL (Γ := []) (Θ := Th) (n := 15) [([1, 1, 0, 1, 0], ⟨[(3, true), (5, false), (6, true)], [(3, true)]⟩)] trivial (by kernel_rfl) th_ok mix_ok Go.Proofs.Try.func67 (by kernel_rfl) ?_
  intro x hw hp Λ hC
  have h0 := h x.1 hw hp (fun t6_1 out_1 => Λ [1, 1, 0, 1, 0] ([(3, .own 3 0), (5, .d false .int x.1), (6, .d true .int t6_1)], [(3, .sl true .int out_1)])) (fun t6_1 out_1 hb => hC [1, 1, 0, 1, 0] ([(3, .own 3 0), (5, .d false .int x.1), (6, .d true .int t6_1)], [(3, .sl true .int out_1)]) (Eq.mpr (by kernel_rfl) hb))
  exact Eq.mpr (by kernel_rfl) h0
theorem cAll8_ok : ConOK Go.Proofs.Try.prog 67 cAll8 := by
  refine cAll8_law ?_
  intro n hw hp Λ1 h1
  unfold cAll8_0
  obtain ⟨m, rfl⟩ : ∃ m : Nat, n = m := ⟨n.toNat, by omega⟩
  rw [Int.toNat_natCast] at h1
  refine upto (n := m) (Q := fun i => Λ1 i (nums i)) ?_ ?_ 0 (Nat.zero_le _)
  · apply h1; unfold cAll8_1; rw [if_neg (by simp)]
  · intro i hi ih
    apply h1; unfold cAll8_1; rw [if_pos (by simpa using hi)]
    refine ⟨by rw [nums_len]; simp; omega, by unfold inI; omega, ?_⟩
    rw [← nums_succ]
    exact ih
abbrev cMet8a : Con := { A := (.cons .int (.cons (.ref (.sl (.sl .int))) (.cons (.ref .int) .nil))), R := (.cons .bool .nil), pre := fun x => okT x.2.1 ∧ 0 ≤ x.1 ∧ x.1 < x.2.1.length ∧ 0 ≤ x.2.2.1 ∧ x.2.2.1 < goals8 x.2.1, F := fun x => (hits x.2.1 x.1 x.2.2.1.toNat, ()) }
def cMet8a_0  (r : Int) (c0 : (List (List Int))) (c1 : Int) (y0 : Bool) : Prop :=
  idx r (List.length c0 : Int) ∧ (idx c1 (List.length (List.getD c0 (Int.toNat r) ([] : List Int)) : Int) ∧ (((List.getD (List.getD c0 (Int.toNat r) ([] : List Int)) (Int.toNat c1) 0) == (1 : Int)) = y0 ∧ True))
theorem cMet8a_law (h : ∀ (r : Int) (c0 : (List (List Int))) (c1 : Int), cMet8a.A.wf (r, c0, c1, ()) → (okT c0 ∧ 0 ≤ r ∧ r < c0.length ∧ 0 ≤ c1 ∧ c1 < goals8 c0) → cMet8a_0  r c0 c1 (hits c0 r c1.toNat)) : ConOK Go.Proofs.Try.prog 108 cMet8a := by
  refine lawL (Γ := []) (Θ := Th) (n := 13) [] trivial (by kernel_rfl) th_ok mix_ok Go.Proofs.Try.func108 (by kernel_rfl) ?_
  intro x hw hp Λ hC
  have h0 := h x.1 x.2.1 x.2.2.1 hw hp  
  exact Eq.mpr (by kernel_rfl) h0
theorem cMet8a_ok : ConOK Go.Proofs.Try.prog 108 cMet8a := by
  refine cMet8a_law ?_
  intro r c0 c1 hw hp
  unfold cMet8a_0
  obtain ⟨p1, p2, p3, p4, p5⟩ := hp
  refine ⟨⟨p2, p3⟩, ⟨p4, ?_⟩, rfl, trivial⟩
  rw [okT_row p1 (by omega)]
  exact p5
abbrev cMet8 : Con := { A := (.cons (.sl (.sl .int)) (.cons (.sl .int) .nil)), R := (.cons (.osl .int) .nil), pre := fun x => okT x.1 ∧ inT x.1 x.2.1, F := fun x => (metL x.1 x.2.1, ()) }
def cMet8_0 (Λ1 : Int → (List Int) → Prop) (t : (List (List Int))) (set_ : (List Int)) (y0 : (List Int)) : Prop :=
  True ∧ Λ1 (0 : Int) ([] : List Int)
def cMet8_1 (Λ1 : Int → (List Int) → Prop) (t : (List (List Int))) (set_ : (List Int)) (y0 : (List Int))  (t9_1 : Int) (out_1 : (List Int)) : Prop :=
  if (decide (t9_1 < ((goals8 t : Int)))) = true then ((∀ r', r' ∈ set_ → (fun (xx : (Int × Unit)) => okT t ∧ 0 ≤ xx.1 ∧ xx.1 < t.length ∧ 0 ≤ t9_1 ∧ t9_1 < goals8 t, fun (xx : (Int × Unit)) => (hits t xx.1 t9_1.toNat, ())).1 (r', ())) ∧ (if (set_.any (fun r' => ((fun (xx : (Int × Unit)) => okT t ∧ 0 ≤ xx.1 ∧ xx.1 < t.length ∧ 0 ≤ t9_1 ∧ t9_1 < goals8 t, fun (xx : (Int × Unit)) => (hits t xx.1 t9_1.toNat, ())).2 (r', ())).1)) = true then (List.length out_1 + List.length [t9_1] ≤ 4294967296 ∧ (inI (t9_1 + (1 : Int)) ∧ Λ1 (t9_1 + (1 : Int)) (out_1 ++ [t9_1]))) else (inI (t9_1 + (1 : Int)) ∧ Λ1 (t9_1 + (1 : Int)) out_1))) else out_1 = y0
theorem cMet8_law (h : ∀ (t : (List (List Int))) (set_ : (List Int)), cMet8.A.wf (t, set_, ()) → (okT t ∧ inT t set_) → ∀ (Λ1 : Int → (List Int) → Prop), (∀ (t9_1 : Int) (out_1 : (List Int)), cMet8_1 Λ1 t set_ (metL t set_) t9_1 out_1 → Λ1 t9_1 out_1) → cMet8_0 Λ1 t set_ (metL t set_)) : ConOK Go.Proofs.Try.prog 81 cMet8 := by
  refine lawX (X := { subs := [], frz := [2], U := [], mul := [], nst := [], nls := [], itf := none, inp := [], arrs := [] }) (hX := xok0 _ trivial) (Γ := [(73, cContI8), (82, cGoals8), (108, cMet8a)]) (Θ := Th) (n := 21) [([1, 1, 0, 1, 0], ⟨[(1, false), (2, false), (5, true), (8, true), (9, true)], [(5, true)]⟩)] ⟨cContI8_ok, cGoals8_ok, cMet8a_ok, trivial⟩ (by kernel_rfl) th_ok mix_ok Go.Proofs.Try.func81 (by kernel_rfl) ?_
  intro x hw hp Λ hC
  have h0 := h x.1 x.2.1 hw hp (fun t9_1 out_1 => Λ [1, 1, 0, 1, 0] ([(1, .d false (.sl .int) x.2.1), (2, .ept false (.sl (.sl .int)) x.1), (5, .own 5 0), (8, .d true .int ((goals8 x.1 : Int))), (9, .d true .int t9_1)], [(5, .sl true .int out_1)])) (fun t9_1 out_1 hb => hC [1, 1, 0, 1, 0] ([(1, .d false (.sl .int) x.2.1), (2, .ept false (.sl (.sl .int)) x.1), (5, .own 5 0), (8, .d true .int ((goals8 x.1 : Int))), (9, .d true .int t9_1)], [(5, .sl true .int out_1)]) (Eq.mpr (by kernel_rfl) hb))
  exact Eq.mpr (by kernel_rfl) h0
theorem cMet8_ok : ConOK Go.Proofs.Try.prog 81 cMet8 := by
  refine cMet8_law ?_
  intro t set_ hw hp Λ1 h1
  unfold cMet8_0
  obtain ⟨p1, p2⟩ := hp
  have hg := p1.2.1
  refine ⟨trivial, ?_⟩
  refine upto (n := goals8 t) (Q := fun i => Λ1 i (metK t set_ i)) ?_ ?_ 0 (Nat.zero_le _)
  · apply h1; unfold cMet8_1; rw [if_neg (by simp)]
    rfl
  · intro i hi ih
    apply h1; unfold cMet8_1; rw [if_pos (by simpa using hi)]
    refine ⟨fun r hr => ⟨p1, (p2 r hr).1, (p2 r hr).2, by omega, by omega⟩, ?_⟩
    rw [metK_succ] at ih
    rw [Int.toNat_natCast]
    cases hv : (set_.any fun r => hits t r i)
    · rw [hv] at ih
      rw [if_neg (by simp)]
      exact ⟨by unfold inI; omega, by simpa using ih⟩
    · rw [hv] at ih
      rw [if_pos rfl]
      exact ⟨by have := metK_len t set_ i; simp; omega, by unfold inI; omega, by simpa using ih⟩
abbrev cOpen8 : Con := { A := (.cons (.sl (.sl .int)) .nil), R := (.cons (.osl .int) .nil), pre := fun x => okT x.1, F := fun x => (openL x.1, ()) }
def cOpen8_0  (t : (List (List Int))) (y0 : (List Int)) : Prop :=
  (0 ≤ (List.length t : Int) ∧ (List.length t : Int) ≤ 4294967296) ∧ ((okT t ∧ inT t (nums (List.length t : Int).toNat)) ∧ (metL t (nums (List.length t : Int).toNat)) = y0)
theorem cOpen8_law (h : ∀ (t : (List (List Int))), cOpen8.A.wf (t, ()) → (okT t) → cOpen8_0  t (openL t)) : ConOK Go.Proofs.Try.prog 57 cOpen8 := by
  refine lawL (Γ := [(67, cAll8), (81, cMet8)]) (Θ := Th) (n := 8) [] ⟨cAll8_ok, cMet8_ok, trivial⟩ (by kernel_rfl) th_ok mix_ok Go.Proofs.Try.func57 (by kernel_rfl) ?_
  intro x hw hp Λ hC
  have h0 := h x.1 hw hp  
  exact Eq.mpr (by kernel_rfl) h0
theorem cOpen8_ok : ConOK Go.Proofs.Try.prog 57 cOpen8 := by
  refine cOpen8_law ?_
  intro t hw hp
  unfold cOpen8_0
  have := hp.1
  exact ⟨⟨by omega, by omega⟩, ⟨hp, nums_in t⟩, rfl⟩
abbrev cOpenS : Con := { A := (.cons (.sl (.sl .int)) .nil), R := (.cons (.osl .int) (.cons .int .nil)), pre := fun x => True, F := fun x => ((if validT x.1 = 0 then openL x.1 else []), validT x.1, ()) }
def cOpenS_0  (t : (List (List Int))) (y0 : (List Int)) (y1 : Int) : Prop :=
  True ∧ (if ((validT t) != (0 : Int)) = true then ((validT t) = y1 ∧ ([] : List Int) = y0) else (okT t ∧ ((0 : Int) = y1 ∧ (openL t) = y0)))
theorem cOpenS_law (h : ∀ (t : (List (List Int))), cOpenS.A.wf (t, ()) → cOpenS_0  t (if validT t = 0 then openL t else []) (validT t)) : ConOK Go.Proofs.Try.prog 28 cOpenS := by
  refine lawL (Γ := [(57, cOpen8), (35, cVal8)]) (Θ := Th) (n := 12) [] ⟨cOpen8_ok, cVal8_ok, trivial⟩ (by kernel_rfl) th_ok mix_ok Go.Proofs.Try.func28 (by kernel_rfl) ?_
  intro x hw hp Λ hC
  have h0 := h x.1 hw  
  exact Eq.mpr (by kernel_rfl) h0
theorem cOpenS_ok : ConOK Go.Proofs.Try.prog 28 cOpenS := by
  refine cOpenS_law ?_
  intro t hw
  unfold cOpenS_0
  refine ⟨trivial, ?_⟩
  by_cases h : validT t = 0
  · rw [if_neg (by simp [h]), if_pos h, h]
    exact ⟨validT_ok.1 h, rfl, rfl⟩
  · rw [if_pos (by simp [h]), if_neg h]
    exact ⟨rfl, rfl⟩
theorem rowsT_ok {t : Ste} {l : List Int} (h : rowsT t l = 0) : okT t ∧ inT t l ∧ isSet8 l t.length = true := by
  unfold rowsT at h
  split at h
  · rename_i h0
    rw [argErr_zero] at h
    exact ⟨validT_ok.1 h0, isSet8_in h, h⟩
  · rename_i h0; exact absurd h h0
abbrev cMetS : Con := { A := (.cons (.sl (.sl .int)) (.cons (.sl .int) .nil)), R := (.cons (.osl .int) (.cons .int .nil)), pre := fun x => True, F := fun x => ((if rowsT x.1 x.2.1 = 0 then metL x.1 x.2.1 else []), rowsT x.1 x.2.1, ()) }
def cMetS_0  (t : (List (List Int))) (set_ : (List Int)) (y0 : (List Int)) (y1 : Int) : Prop :=
  True ∧ (if ((rowsT t set_) != (0 : Int)) = true then ((rowsT t set_) = y1 ∧ ([] : List Int) = y0) else ((okT t ∧ inT t set_) ∧ ((0 : Int) = y1 ∧ (metL t set_) = y0)))
theorem cMetS_law (h : ∀ (t : (List (List Int))) (set_ : (List Int)), cMetS.A.wf (t, set_, ()) → cMetS_0  t set_ (if rowsT t set_ = 0 then metL t set_ else []) (rowsT t set_)) : ConOK Go.Proofs.Try.prog 33 cMetS := by
  refine lawL (Γ := [(81, cMet8), (78, cRows8)]) (Θ := Th) (n := 16) [] ⟨cMet8_ok, cRows8_ok, trivial⟩ (by kernel_rfl) th_ok mix_ok Go.Proofs.Try.func33 (by kernel_rfl) ?_
  intro x hw hp Λ hC
  have h0 := h x.1 x.2.1 hw  
  exact Eq.mpr (by kernel_rfl) h0
theorem cMetS_ok : ConOK Go.Proofs.Try.prog 33 cMetS := by
  refine cMetS_law ?_
  intro t set_ hw
  unfold cMetS_0
  refine ⟨trivial, ?_⟩
  by_cases h : rowsT t set_ = 0
  · rw [if_neg (by simp [h]), if_pos h, h]
    exact ⟨⟨(rowsT_ok h).1, (rowsT_ok h).2.1⟩, rfl, rfl⟩
  · rw [if_pos (by simp [h]), if_neg h]
    exact ⟨rfl, rfl⟩
abbrev cIsCov : Con := { A := (.cons (.sl (.sl .int)) (.cons (.sl .int) .nil)), R := (.cons .bool .nil), pre := fun x => okT x.1 ∧ inT x.1 x.2.1, F := fun x => (coverB x.1 x.2.1, ()) }
def cIsCov_0  (t : (List (List Int))) (set_ : (List Int)) (y0 : Bool) : Prop :=
  (okT t ∧ inT t set_) ∧ (okT t ∧ (((List.length (metL t set_) : Int) == (List.length (openL t) : Int)) = y0 ∧ True))
theorem cIsCov_law (h : ∀ (t : (List (List Int))) (set_ : (List Int)), cIsCov.A.wf (t, set_, ()) → (okT t ∧ inT t set_) → cIsCov_0  t set_ (coverB t set_)) : ConOK Go.Proofs.Try.prog 69 cIsCov := by
  refine lawL (Γ := [(81, cMet8), (57, cOpen8)]) (Θ := Th) (n := 13) [] ⟨cMet8_ok, cOpen8_ok, trivial⟩ (by kernel_rfl) th_ok mix_ok Go.Proofs.Try.func69 (by kernel_rfl) ?_
  intro x hw hp Λ hC
  have h0 := h x.1 x.2.1 hw hp  
  exact Eq.mpr (by kernel_rfl) h0
theorem cIsCov_ok : ConOK Go.Proofs.Try.prog 69 cIsCov := by
  refine cIsCov_law ?_
  intro t set_ hw hp
  unfold cIsCov_0
  refine ⟨hp, hp.1, ?_, trivial⟩
  unfold coverB
  rw [beq_dec, decide_eq_decide]
  omega
abbrev cCheckCov : Con := { A := (.cons (.sl (.sl .int)) (.cons (.sl .int) .nil)), R := (.cons .int .nil), pre := fun x => True, F := fun x => ((if rowsT x.1 x.2.1 = 0 then (if coverB x.1 x.2.1 then 0 else 7) else rowsT x.1 x.2.1), ()) }
def cCheckCov_0  (t : (List (List Int))) (set_ : (List Int)) (y0 : Int) : Prop :=
  True ∧ (if ((rowsT t set_) != (0 : Int)) = true then ((rowsT t set_) = y0 ∧ True) else ((okT t ∧ inT t set_) ∧ (if (!(coverB t set_)) = true then ((7 : Int) = y0 ∧ True) else ((0 : Int) = y0 ∧ True))))
theorem cCheckCov_law (h : ∀ (t : (List (List Int))) (set_ : (List Int)), cCheckCov.A.wf (t, set_, ()) → cCheckCov_0  t set_ (if rowsT t set_ = 0 then (if coverB t set_ then 0 else 7) else rowsT t set_)) : ConOK Go.Proofs.Try.prog 29 cCheckCov := by
  refine lawL (Γ := [(69, cIsCov), (78, cRows8)]) (Θ := Th) (n := 16) [] ⟨cIsCov_ok, cRows8_ok, trivial⟩ (by kernel_rfl) th_ok mix_ok Go.Proofs.Try.func29 (by kernel_rfl) ?_
  intro x hw hp Λ hC
  have h0 := h x.1 x.2.1 hw  
  exact Eq.mpr (by kernel_rfl) h0
theorem cCheckCov_ok : ConOK Go.Proofs.Try.prog 29 cCheckCov := by
  refine cCheckCov_law ?_
  intro t set_ hw
  unfold cCheckCov_0
  refine ⟨trivial, ?_⟩
  by_cases h : rowsT t set_ = 0
  · rw [if_neg (by simp [h]), if_pos h]
    refine ⟨⟨(rowsT_ok h).1, (rowsT_ok h).2.1⟩, ?_⟩
    cases coverB t set_
    · rw [if_pos (by rfl)]
      exact ⟨rfl, trivial⟩
    · rw [if_neg (by simp)]
      exact ⟨rfl, trivial⟩
  · rw [if_pos (by simp [h]), if_neg h]
    exact ⟨rfl, trivial⟩
end Go.Tk
/- Plain facts of layer 8: sets of rows. No program in sight. -/
set_option linter.unusedSimpArgs false
set_option linter.unusedVariables false
set_option linter.unnecessarySimpa false
namespace Go.Tk
open Go Go.RowKit

theorem idxF_cases {α : Type} (d : α) (p : α → Bool) (s : List α) : (idxF p s = -1 ∧ s.any p = false) ∨ ∃ k, k < s.length ∧ idxF p s = (k : Int) ∧ (s.take k).any p = false ∧ p (s.getD k d) = true := by
  have key : ∀ i, i ≤ s.length → (s.take i).any p = false → (idxF p s = -1 ∧ s.any p = false) ∨ ∃ k, k < s.length ∧ idxF p s = (k : Int) ∧ (s.take k).any p = false ∧ p (s.getD k d) = true := by
    refine upto ?_ ?_
    · intro ha
      rw [List.take_length] at ha
      exact .inl ⟨idxF_none ha, ha⟩
    · intro i hi ih ha
      cases hv : p (s.getD i d)
      · exact ih (any_take_next d hi ha hv)
      · exact .inr ⟨i, hi, idxF_at d hi ha hv, ha, hv⟩
  exact key 0 (Nat.zero_le _) rfl

/-! ### DeleteFunc -/
def keepK {α : Type} (p : α → Bool) (s : List α) (j : Nat) : List α := (s.take j).filter fun r => !p r
theorem keepK_all {α : Type} (p : α → Bool) (s : List α) : keepK p s s.length = s.filter fun r => !p r := by unfold keepK; rw [List.take_length]
theorem keepK_len {α : Type} (p : α → Bool) (s : List α) (j : Nat) : (keepK p s j).length ≤ j := by
  unfold keepK
  exact Nat.le_trans (List.length_filter_le ..) (by rw [List.length_take]; omega)
theorem keepK_succ {α : Type} (d : α) (p : α → Bool) {s : List α} {j : Nat} (hj : j < s.length) : keepK p s (j + 1) = if p (s.getD j d) = true then keepK p s j else keepK p s j ++ [s.getD j d] := by
  unfold keepK
  rw [take_snoc d hj, List.filter_append]
  cases h : p (s.getD j d)
  · have : List.filter (fun r => !p r) [s.getD j d] = [s.getD j d] := by rw [List.filter_cons_of_pos (by rw [h]; rfl)]; rfl
    rw [this]; simp
  · have : List.filter (fun r => !p r) [s.getD j d] = [] := by rw [List.filter_cons_of_neg (by rw [h]; simp)]; rfl
    rw [this]; simp
theorem keepK_none {α : Type} {p : α → Bool} {s : List α} {j : Nat} (h : (s.take j).any p = false) : keepK p s j = s.take j := by
  unfold keepK
  rw [List.filter_eq_self]
  intro a ha
  have := List.any_eq_false.1 h a ha
  simpa using this
theorem filter_none {α : Type} {p : α → Bool} {s : List α} (h : s.any p = false) : (s.filter fun r => !p r) = s := by
  have := keepK_none (p := p) (s := s) (j := s.length) (by rw [List.take_length]; exact h)
  rw [keepK_all, List.take_length] at this
  exact this

/-- What the loop of DeleteFunc keeps. -/
structure DelI {α : Type} (p : α → Bool) (s s1 : List α) (j : Nat) : Prop where
  len : s1.length = s.length
  lt : (keepK p s j).length < j
  fst : s1.take (keepK p s j).length = keepK p s j
  rest : s1.drop j = s.drop j

theorem DelI.start {α : Type} (d : α) {p : α → Bool} {s : List α} {k : Nat} (hk : k < s.length) (h1 : (s.take k).any p = false) (h2 : p (s.getD k d) = true) : DelI p s s (k + 1) ∧ (keepK p s (k + 1)).length = k := by
  have e : keepK p s (k + 1) = s.take k := by rw [keepK_succ d p hk, if_pos h2, keepK_none h1]
  have l : (s.take k).length = k := by rw [List.length_take]; omega
  exact ⟨⟨rfl, by rw [e, l]; omega, by rw [e, l], rfl⟩, by rw [e, l]⟩
theorem DelI.get {α : Type} {d : α} {p : α → Bool} {s s1 : List α} {j : Nat} (h : DelI p s s1 j) (hj : j < s.length) : s1.getD j d = s.getD j d := by
  have h1 : (s1.drop j)[0]? = (s.drop j)[0]? := by rw [h.rest]
  simp only [List.getElem?_drop, Nat.add_zero] at h1
  rw [List.getD_eq_getElem?_getD, List.getD_eq_getElem?_getD, h1]
theorem DelI.keep {α : Type} {d : α} {p : α → Bool} {s s1 : List α} {j : Nat} (h : DelI p s s1 j) (hj : j < s.length) (hp : p (s.getD j d) = false) : DelI p s (s1.set (keepK p s j).length (s.getD j d)) (j + 1) ∧ (keepK p s (j + 1)).length = (keepK p s j).length + 1 := by
  have e : keepK p s (j + 1) = keepK p s j ++ [s.getD j d] := by rw [keepK_succ d p hj, if_neg (by rw [hp]; simp)]
  have hl : (keepK p s (j + 1)).length = (keepK p s j).length + 1 := by rw [e]; simp
  have hlt := h.lt
  refine ⟨⟨by rw [List.length_set]; exact h.len, by omega, ?_, ?_⟩, hl⟩
  · rw [hl, e, take_snoc d (by rw [List.length_set, h.len]; omega), List.take_set_of_le (Nat.le_refl _), h.fst]
    congr 1
    simp [List.getElem?_set, h.len, show (keepK p s j).length < s.length by omega]
  · rw [List.drop_set_of_lt (by omega)]
    have := congrArg (List.drop 1) h.rest
    simpa [List.drop_drop] using this
theorem DelI.skip {α : Type} {d : α} {p : α → Bool} {s s1 : List α} {j : Nat} (h : DelI p s s1 j) (hj : j < s.length) (hp : p (s.getD j d) = true) : DelI p s s1 (j + 1) ∧ keepK p s (j + 1) = keepK p s j := by
  have e : keepK p s (j + 1) = keepK p s j := by rw [keepK_succ d p hj, if_pos hp]
  have hlt := h.lt
  refine ⟨⟨h.len, by rw [e]; omega, by rw [e]; exact h.fst, ?_⟩, e⟩
  have := congrArg (List.drop 1) h.rest
  simpa [List.drop_drop] using this

/-! ### The search for a cover -/
def srch (t : Ste) : Nat → List Int → Nat → Option (List Int × Unit)
  | 0, l, _ => if coverB t l = true then some (l, ()) else none
  | m + 1, l, from_ => (List.range t.length).findSome? fun r => if from_ ≤ r ∧ r + (m + 1) ≤ t.length then srch t m (l ++ [(r : Int)]) (r + 1) else none

theorem srch_none {t : Ste} {m : Nat} {l : List Int} {from_ : Nat} (h : ∀ r, from_ ≤ r → r + (m + 1) ≤ t.length → srch t m (l ++ [(r : Int)]) (r + 1) = none) : srch t (m + 1) l from_ = none := by
  unfold srch
  rw [List.findSome?_eq_none_iff]
  intro r hr
  split
  · rename_i hc; exact h r hc.1 hc.2
  · rfl
theorem srch_some {t : Ste} {m : Nat} {l : List Int} {from_ r : Nat} {y : List Int × Unit} (h : ∀ q, from_ ≤ q → q < r → srch t m (l ++ [(q : Int)]) (q + 1) = none) (h1 : from_ ≤ r) (h2 : r + (m + 1) ≤ t.length) (h3 : srch t m (l ++ [(r : Int)]) (r + 1) = some y) : srch t (m + 1) l from_ = some y := by
  unfold srch
  have key : ∀ n, r + n + 1 ≤ t.length → (List.range (r + n + 1)).findSome? (fun r => if from_ ≤ r ∧ r + (m + 1) ≤ t.length then srch t m (l ++ [(r : Int)]) (r + 1) else none) = some y := by
    intro n
    induction n with
    | zero =>
      intro hn
      rw [Nat.add_zero, List.range_succ, List.findSome?_append]
      have : (List.range r).findSome? (fun r => if from_ ≤ r ∧ r + (m + 1) ≤ t.length then srch t m (l ++ [(r : Int)]) (r + 1) else none) = none := by
        rw [List.findSome?_eq_none_iff]
        intro q hq
        rw [List.mem_range] at hq
        split
        · rename_i hc; exact h q hc.1 hq
        · rfl
      rw [this]
      simp [h1, h2, h3]
    | succ n ih =>
      intro hn
      rw [show r + (n + 1) + 1 = (r + n + 1) + 1 by omega, List.range_succ, List.findSome?_append, ih (by omega)]
      rfl
  have := key (t.length - r - 1) (by omega)
  rw [show r + (t.length - r - 1) + 1 = t.length by omega] at this
  exact this

/-! ### All sets of numbers -/
def setOf (n b : Nat) : List Int := (nums n).filter fun k => b.testBit k.toNat
def setsL (n : Nat) : List (List Int) := (List.range (2 ^ n)).map (setOf n)
theorem setsL_take (n k : Nat) : (List.range (k + 1)).map (setOf n) = (List.range k).map (setOf n) ++ [setOf n k] := by
  rw [List.range_succ, List.map_append]; rfl

theorem bit_and (m : Nat) (h : m < 9223372036854775808) : (IntKind.i64.wrap (BitVec.ofInt 64 (m : Int) &&& BitVec.ofInt 64 (1 : Int)).toNat) = ((m % 2 : Nat) : Int) := by
  have : (BitVec.ofInt 64 (m : Int) &&& BitVec.ofInt 64 (1 : Int)).toNat = m % 2 := by
    rw [show BitVec.ofInt 64 (m : Int) = BitVec.ofNat 64 m by simp, show BitVec.ofInt 64 (1 : Int) = BitVec.ofNat 64 1 by simp]
    rw [BitVec.toNat_and, BitVec.toNat_ofNat, BitVec.toNat_ofNat, Nat.mod_eq_of_lt (show m < 2 ^ 64 by omega), Nat.mod_eq_of_lt (show 1 < 2 ^ 64 by decide), Nat.and_one_is_mod]
  rw [this]
  rcases Nat.mod_two_eq_zero_or_one m with e | e <;> rw [e] <;> decide

theorem bit_test (m k : Nat) (h : m < 9223372036854775808) : (IntKind.i64.wrap (BitVec.ofInt 64 (Int.fdiv (m : Int) (2 ^ k)) &&& BitVec.ofInt 64 (1 : Int)).toNat == (0 : Int)) = !(m.testBit k) := by
  have e : Int.fdiv (m : Int) (2 ^ k) = ((m / 2 ^ k : Nat) : Int) := by
    rw [show ((2 : Int) ^ k) = ((2 ^ k : Nat) : Int) by norm_cast]
    exact (Int.ofNat_fdiv m (2 ^ k)).symm
  rw [e, bit_and _ (Nat.lt_of_le_of_lt (Nat.div_le_self ..) h), Nat.testBit_eq_decide_div_mod_eq]
  rcases Nat.mod_two_eq_zero_or_one (m / 2 ^ k) with e | e <;> rw [e] <;> decide

/-! ### Lists of numbers in order -/
def cmpI (x y : Int) : Int := if x < y then -1 else if x > y then 1 else 0
def cmpL : List Int → List Int → Int
  | [], [] => 0
  | [], _ :: _ => -1
  | _ :: _, [] => 1
  | x :: a, y :: b => if x = y then cmpL a b else cmpI x y

theorem cmpL_drop {a b : List Int} : ∀ i, a.take i = b.take i → i ≤ a.length → i ≤ b.length → cmpL a b = cmpL (a.drop i) (b.drop i)
  | 0, _, _, _ => rfl
  | i + 1, h, ha, hb => by
    cases a with
    | nil => simp at ha
    | cons x a => cases b with
      | nil => simp at hb
      | cons y b =>
        simp only [List.take_succ_cons, List.cons.injEq] at h
        simp only [List.drop_succ_cons]
        rw [show cmpL (x :: a) (y :: b) = if x = y then cmpL a b else cmpI x y from rfl, if_pos h.1]
        exact cmpL_drop i h.2 (by simpa using ha) (by simpa using hb)

theorem cmpL_at {a b : List Int} {i : Nat} (h : a.take i = b.take i) (ha : i < a.length) (hb : i < b.length) (hne : a.getD i 0 ≠ b.getD i 0) : cmpL a b = cmpI (a.getD i 0) (b.getD i 0) := by
  rw [cmpL_drop i h (by omega) (by omega)]
  have e1 : a.drop i = a.getD i 0 :: a.drop (i + 1) := by rw [List.drop_eq_getElem_cons ha]; simp [List.getD_eq_getElem?_getD, ha]
  have e2 : b.drop i = b.getD i 0 :: b.drop (i + 1) := by rw [List.drop_eq_getElem_cons hb]; simp [List.getD_eq_getElem?_getD, hb]
  rw [e1, e2]
  show (if _ = _ then _ else _) = _
  rw [if_neg hne]
theorem cmpL_gt {a b : List Int} {i : Nat} (h : a.take i = b.take i) (ha : i < a.length) (hb : b.length ≤ i) (hb2 : i ≤ b.length) : cmpL a b = 1 := by
  rw [cmpL_drop i h (by omega) hb2]
  have e1 : a.drop i = a.getD i 0 :: a.drop (i + 1) := by rw [List.drop_eq_getElem_cons ha]; simp [List.getD_eq_getElem?_getD, ha]
  have e2 : b.drop i = [] := List.drop_eq_nil_of_le hb
  rw [e1, e2]; rfl
theorem cmpL_end {a b : List Int} (h : a.take a.length = b.take a.length) (hb : a.length ≤ b.length) : cmpL a b = if a.length < b.length then -1 else 0 := by
  rw [cmpL_drop a.length h (Nat.le_refl _) hb]
  have e1 : a.drop a.length = [] := by simp
  rw [e1]
  split
  · rename_i hl
    have e2 : b.drop a.length = b.getD a.length 0 :: b.drop (a.length + 1) := by rw [List.drop_eq_getElem_cons hl]; simp [List.getD_eq_getElem?_getD, hl]
    rw [e2]; rfl
  · have e2 : b.drop a.length = [] := List.drop_eq_nil_of_le (by omega)
    rw [e2]; rfl

end Go.Tk
set_option linter.unusedSimpArgs false
set_option linter.unusedVariables false
set_option linter.unnecessarySimpa false
namespace Go.Tk
open Go Go.RowKit

abbrev cCloneI : Con := { A := (.cons (.sl .int) .nil), R := (.cons (.osl .int) .nil), pre := fun x => x.1.length ≤ 1000000, F := fun x => (x.1, ()) }
def cCloneI_0  (s : (List Int)) (y0 : (List Int)) : Prop :=
  (s = [] → ([] : List Int) = y0) ∧ (True → (List.length ([] : List Int) + List.length s ≤ 4294967296 ∧ (([] : List Int) ++ s) = y0))
theorem cCloneI_law (h : ∀ (s : (List Int)), cCloneI.A.wf (s, ()) → (s.length ≤ 1000000) → cCloneI_0  s s) : ConOK Go.Proofs.Try.prog 91 cCloneI := by
  refine lawL (Γ := []) (Θ := Th) (n := 8) [] trivial (by kernel_rfl) th_ok mix_ok Go.Proofs.Try.func91 (by kernel_rfl) ?_
  intro x hw hp Λ hC
  have h0 := h x.1 hw hp  
  exact Eq.mpr (by kernel_rfl) h0
theorem cCloneI_ok : ConOK Go.Proofs.Try.prog 91 cCloneI := by
  refine cCloneI_law ?_
  intro s hw hp
  unfold cCloneI_0
  exact ⟨fun h => h.symm, fun _ => ⟨by simp only [List.length_nil]; omega, by simp⟩⟩
abbrev cDelF : InC := { a := .int, B := (.cons (.fn (.cons .int .nil) (.cons .bool .nil)) .nil), pre := fun xs x => ∀ r', r' ∈ xs → x.1.1 (r', ()), F := fun xs x => xs.filter (fun r' => !(x.1.2 (r', ())).1), ret := true }
def cDelF_0 (Λ1 : Int → Int → (List Int) → Prop) (s : (List Int)) (del : (T.fn (.cons .int .nil) (.cons .bool .nil)).den) (y0 : (List Int)) : Prop :=
  (∀ r', r' ∈ s → del.1 (r', ())) ∧ (if ((idxF (fun r' => (del.2 (r', ())).1) s) == (-1 : Int)) = true then s = y0 else (inI ((idxF (fun r' => (del.2 (r', ())).1) s) + (1 : Int)) ∧ Λ1 (idxF (fun r' => (del.2 (r', ())).1) s) ((idxF (fun r' => (del.2 (r', ())).1) s) + (1 : Int)) s))
def cDelF_1 (Λ1 : Int → Int → (List Int) → Prop) (s : (List Int)) (del : (T.fn (.cons .int .nil) (.cons .bool .nil)).den) (y0 : (List Int))  (i_1 : Int) (j_1 : Int) (s_1 : (List Int)) : Prop :=
  if (decide (j_1 < (List.length s_1 : Int))) = true then (idx j_1 (List.length s_1 : Int) ∧ (del.1 ((List.getD s_1 (Int.toNat j_1) 0), ()) ∧ (if (!((del.2 ((List.getD s_1 (Int.toNat j_1) 0), ())).1)) = true then (idx i_1 (List.length s_1 : Int) ∧ (inI (i_1 + (1 : Int)) ∧ (inI (j_1 + (1 : Int)) ∧ Λ1 (i_1 + (1 : Int)) (j_1 + (1 : Int)) (List.set s_1 (Int.toNat i_1) (List.getD s_1 (Int.toNat j_1) 0))))) else (inI (j_1 + (1 : Int)) ∧ Λ1 i_1 (j_1 + (1 : Int)) s_1)))) else ((0 ≤ i_1 ∧ i_1 ≤ (List.length s_1 : Int) ∧ (List.length s_1 : Int) ≤ (List.length s_1 : Int) ∧ (List.length s_1 : Int) ≤ (List.length s_1 : Int)) ∧ (True ∧ ((0 ≤ (0 : Int) ∧ (0 : Int) ≤ i_1 ∧ i_1 ≤ (List.length (List.take (Int.toNat i_1) s_1 ++ List.replicate ((Int.toNat (List.length s_1 : Int)) - (Int.toNat i_1)) 0 ++ List.drop (Int.toNat (List.length s_1 : Int)) s_1) : Int) ∧ (List.length (List.take (Int.toNat i_1) s_1 ++ List.replicate ((Int.toNat (List.length s_1 : Int)) - (Int.toNat i_1)) 0 ++ List.drop (Int.toNat (List.length s_1 : Int)) s_1) : Int) ≤ (List.length (List.take (Int.toNat i_1) s_1 ++ List.replicate ((Int.toNat (List.length s_1 : Int)) - (Int.toNat i_1)) 0 ++ List.drop (Int.toNat (List.length s_1 : Int)) s_1) : Int)) ∧ List.take (Int.toNat i_1) (List.take (Int.toNat i_1) s_1 ++ List.replicate ((Int.toNat (List.length s_1 : Int)) - (Int.toNat i_1)) 0 ++ List.drop (Int.toNat (List.length s_1 : Int)) s_1) = y0)))
theorem cDelF_law (h : ∀ (s : (List Int)) (del : (T.fn (.cons .int .nil) (.cons .bool .nil)).den), (T.sl cDelF.a).wf s → cDelF.B.wf (del, ()) → (∀ r', r' ∈ s → del.1 (r', ())) → ∀ (Λ1 : Int → Int → (List Int) → Prop), (∀ (i_1 : Int) (j_1 : Int) (s_1 : (List Int)), cDelF_1 Λ1 s del (s.filter (fun r' => !(del.2 (r', ())).1)) i_1 j_1 s_1 → Λ1 i_1 j_1 s_1) → cDelF_0 Λ1 s del (s.filter (fun r' => !(del.2 (r', ())).1))) : InF Go.Proofs.Try.prog 66 cDelF := by
  refine lawI (X := { subs := [38, 41], frz := [], U := [], mul := [], nst := [], nls := [], itf := none, inp := [], arrs := [] }) (hX := xok0 _ trivial) (Γ := [(106, cIndexI8)]) (Θ := Th) (n := 42) [([1, 1, 1, 0, 1, 0], ⟨[(0, true), (1, false), (5, true), (6, true)], [(0, false)]⟩)] ⟨cIndexI8_ok, trivial⟩ (by kernel_rfl) th_ok mix_ok Go.Proofs.Try.func66 (by kernel_rfl) ?_
  intro xs x hs hw hp Λ hC
  have h0 := h xs x.1 hs hw hp (fun i_1 j_1 s_1 => Λ [1, 1, 1, 0, 1, 0] ([(0, .own 0 0), (1, .d false (.fn (.cons .int .nil) (.cons .bool .nil)) x.1), (5, .d true .int i_1), (6, .d true .int j_1)], [(0, .sl false .int s_1)])) (fun i_1 j_1 s_1 hb => hC [1, 1, 1, 0, 1, 0] ([(0, .own 0 0), (1, .d false (.fn (.cons .int .nil) (.cons .bool .nil)) x.1), (5, .d true .int i_1), (6, .d true .int j_1)], [(0, .sl false .int s_1)]) (Eq.mpr (by kernel_rfl) hb))
  exact Eq.mpr (by kernel_rfl) h0
theorem cDelF_ok : FunOK Go.Proofs.Try.prog 66 ∧ InF Go.Proofs.Try.prog 66 cDelF := by
  refine ⟨funB_ok (by kernel_rfl), cDelF_law ?_⟩
  intro s del hs hw hp Λ1 h1
  unfold cDelF_0
  have hl : s.length ≤ 140737488355328 := hs.1
  refine ⟨hp, ?_⟩
  generalize hpe : (fun r => (del.2 (r, ())).1) = p
  have hfe : (s.filter fun r => !(del.2 (r, ())).1) = s.filter fun r => !p r := by rw [← hpe]
  rw [hfe]
  rw [hfe] at h1
  rcases idxF_cases 0 p s with ⟨e1, e2⟩ | ⟨k, hk, e1, e2, e3⟩
  · rw [e1, if_pos (by rfl), filter_none e2]
  · rw [e1, if_neg (by simp)]
    refine ⟨by unfold inI; omega, ?_⟩
    obtain ⟨d1, d2⟩ := DelI.start 0 hk e2 e3
    have key : ∀ j, j ≤ s.length → ∀ s1, DelI p s s1 j → Λ1 ((keepK p s j).length : Int) (j : Int) s1 := by
      refine upto ?_ ?_
      · intro s1 hd
        apply h1; unfold cDelF_1
        rw [if_neg (by simp [hd.len])]
        have hkl := keepK_len p s s.length
        refine ⟨⟨by omega, by rw [hd.len]; omega, Int.le_refl _, Int.le_refl _⟩, trivial, ⟨Int.le_refl _, by omega, ?_, Int.le_refl _⟩, ?_⟩
        · simp [hd.len]; omega
        · simp only [Int.toNat_natCast]
          rw [List.take_append_of_le_length (by simp [hd.len]; omega), List.take_append_of_le_length (by simp [hd.len]; omega), List.take_take, Nat.min_self, hd.fst, keepK_all]
      · intro j hj ih s1 hd
        apply h1; unfold cDelF_1
        rw [if_pos (by simp [hd.len]; exact hj)]
        rw [Int.toNat_natCast, hd.get (d := 0) hj]
        have hlt := hd.lt
        refine ⟨⟨by omega, by rw [hd.len]; omega⟩, hp _ (mem_getD hj), ?_⟩
        have hpv : (del.2 (s.getD j 0, ())).1 = p (s.getD j 0) := by rw [← hpe]
        rw [hpv]
        cases hv : p (s.getD j 0)
        · rw [if_pos (by rfl)]
          obtain ⟨g1, g2⟩ := hd.keep (d := 0) hj hv
          have := ih _ g1
          rw [g2] at this
          exact ⟨⟨by omega, by rw [hd.len]; omega⟩, by unfold inI; omega, by unfold inI; omega, by simpa using this⟩
        · rw [if_neg (by simp)]
          obtain ⟨g1, g2⟩ := hd.skip (d := 0) hj hv
          have := ih _ g1
          rw [g2] at this
          exact ⟨by unfold inI; omega, by simpa using this⟩
    have := key (k + 1) (by omega) s d1
    rw [d2] at this
    simpa using this
abbrev cSearch (n : Nat) : PanC := { A1 := (.cons (.sl (.sl .int)) .nil), A2 := (.cons (.sl .int) (.cons .int (.cons .int .nil))), R := (.cons (.sl .int) .nil), ty := 62, pre := fun x z => z.2.2.1.toNat < n ∧ okT x.1 ∧ inT x.1 z.1 ∧ 0 ≤ z.2.1 ∧ z.2.1 ≤ x.1.length ∧ 0 ≤ z.2.2.1 ∧ z.2.2.1 ≤ 90 ∧ z.1.length + z.2.2.1.toNat ≤ 100, F := fun x z => srch x.1 z.2.2.1.toNat z.1 z.2.1.toNat }
def cSearch_0 (Λ1 : Int → Prop) (n : Nat) (t : (List (List Int))) (set_ : (List Int)) (from_ : Int) (more : Int) (y0 : Option ((List Int) × Unit)) : Prop :=
  if (more == (0 : Int)) = true then ((okT t ∧ inT t set_) ∧ (if (coverB t set_) = true then y0 = some (set_, ()) else y0 = none)) else Λ1 from_
def cSearch_1 (Λ1 : Int → Prop) (n : Nat) (t : (List (List Int))) (set_ : (List Int)) (from_ : Int) (more : Int) (y0 : Option ((List Int) × Unit))  (r_1 : Int) : Prop :=
  inI ((List.length t : Int) - more) ∧ (if (decide (r_1 ≤ ((List.length t : Int) - more))) = true then (set_.length ≤ 1000000 ∧ (List.length set_ + List.length [r_1] ≤ 4294967296 ∧ (inI (r_1 + (1 : Int)) ∧ (inI (more - (1 : Int)) ∧ (((more - (1 : Int)).toNat < n ∧ okT t ∧ inT t (set_ ++ [r_1]) ∧ 0 ≤ (r_1 + (1 : Int)) ∧ (r_1 + (1 : Int)) ≤ t.length ∧ 0 ≤ (more - (1 : Int)) ∧ (more - (1 : Int)) ≤ 90 ∧ (set_ ++ [r_1]).length + (more - (1 : Int)).toNat ≤ 100) ∧ ((srch t (more - (1 : Int)).toNat (set_ ++ [r_1]) (r_1 + (1 : Int)).toNat) = none → (inI (r_1 + (1 : Int)) ∧ Λ1 (r_1 + (1 : Int)))) ∧ ∀ yp, (srch t (more - (1 : Int)).toNat (set_ ++ [r_1]) (r_1 + (1 : Int)).toNat) = some yp → y0 = some yp))))) else y0 = none)
theorem cSearch_law {n : Nat} (hr : FunOK Go.Proofs.Try.prog 77 ∧ PanF Go.Proofs.Try.prog 77 (cSearch n)) (h : ∀ (t : (List (List Int))) (set_ : (List Int)) (from_ : Int) (more : Int), (cSearch 0).A1.wf (t, ()) → (cSearch 0).A2.wf (set_, from_, more, ()) → (more.toNat < (n + 1) ∧ okT t ∧ inT t set_ ∧ 0 ≤ from_ ∧ from_ ≤ t.length ∧ 0 ≤ more ∧ more ≤ 90 ∧ set_.length + more.toNat ≤ 100) → ∀ (Λ1 : Int → Prop), (∀ (r_1 : Int), cSearch_1 Λ1 n t set_ from_ more (srch t more.toNat set_ from_.toNat) r_1 → Λ1 r_1) → cSearch_0 Λ1 n t set_ from_ more (srch t more.toNat set_ from_.toNat)) : PanF Go.Proofs.Try.prog 77 (cSearch (n + 1)) := by
  refine lawP (X := { subs := [], frz := [], U := [], mul := [], nst := [], nls := [], itf := none, inp := [], arrs := [], pcs := [(77, cSearch n)] }) (hX := xok0 _ trivial (h5 := ⟨hr, trivial⟩)) (Γ := [(91, cCloneI), (69, cIsCov)]) (Θ := Th) (n := 37) [([1, 1, 0], ⟨[(0, false), (1, true), (3, true), (8, true)], []⟩)] ⟨cCloneI_ok, cIsCov_ok, trivial⟩ (by kernel_rfl) th_ok (by kernel_rfl) mix_ok Go.Proofs.Try.func77 (by kernel_rfl) ?_
  intro x z hw hz hp Λ hC
  have h0 := h x.1 z.1 z.2.1 z.2.2.1 hw hz hp (fun r_1 => Λ [1, 1, 0] ([(0, .d false (.sl (.sl .int)) x.1), (1, .d true (.sl .int) z.1), (3, .d true .int z.2.2.1), (8, .d true .int r_1)], [])) (fun r_1 hb => hC [1, 1, 0] ([(0, .d false (.sl (.sl .int)) x.1), (1, .d true (.sl .int) z.1), (3, .d true .int z.2.2.1), (8, .d true .int r_1)], []) (Eq.mpr (by kernel_rfl) hb))
  exact Eq.mpr (by kernel_rfl) h0
theorem cSearch_ok : ∀ n, FunOK Go.Proofs.Try.prog 77 ∧ PanF Go.Proofs.Try.prog 77 (cSearch n) := by
  intro n
  refine ⟨funB_ok (by kernel_rfl), ?_⟩
  induction n with
  | zero => exact fun w n0 S x z vs us hn hv hu hp => absurd hp (by first | exact fun h => Nat.not_lt_zero _ h.1 | exact fun h => Nat.not_lt_zero _ h)
  | succ n ih =>
  refine cSearch_law ⟨funB_ok (by kernel_rfl), ih⟩ ?_
  clear ih
  intro t set_ from_ more hw hz hp Λ1 h1
  unfold cSearch_0
  obtain ⟨p1, p2, p3, p4, p5, p6, p7, p8⟩ := hp
  have ht := p2.1
  obtain ⟨m, rfl⟩ : ∃ m : Nat, more = m := ⟨more.toNat, by omega⟩
  obtain ⟨f, rfl⟩ : ∃ f : Nat, from_ = f := ⟨from_.toNat, by omega⟩
  simp only [Int.toNat_natCast] at p1 p8 h1 ⊢
  cases m with
  | zero =>
    rw [if_pos (by rfl)]
    refine ⟨⟨p2, p3⟩, ?_⟩
    unfold srch
    cases coverB t set_
    · rw [if_neg (by simp)]; simp
    · rw [if_pos rfl]; simp
  | succ m =>
    rw [if_neg (by simp; omega)]
    have key : ∀ r, r ≤ t.length → f ≤ r → (∀ q, f ≤ q → q < r → q + (m + 1) ≤ t.length → srch t m (set_ ++ [(q : Int)]) (q + 1) = none) → Λ1 (r : Int) := by
      refine upto ?_ ?_
      · intro hf ha
        apply h1; unfold cSearch_1
        refine ⟨by unfold inI; omega, ?_⟩
        rw [if_neg (by simp; omega)]
        exact srch_none fun r q1 q2 => ha r q1 (by omega) q2
      · intro r hr ih hf ha
        apply h1; unfold cSearch_1
        refine ⟨by unfold inI; omega, ?_⟩
        by_cases hc : r + (m + 1) ≤ t.length
        · rw [if_pos (by simp; omega)]
          have e1 : ((r : Int) + 1).toNat = r + 1 := by omega
          have e2 : (((m + 1 : Nat) : Int) - 1).toNat = m := by omega
          rw [e1, e2]
          refine ⟨by omega, by simp; omega, by unfold inI; omega, by unfold inI; omega, ⟨by omega, p2, ?_, by omega, by omega, by omega, by omega, by simp; omega⟩, fun hn => ⟨by unfold inI; omega, ?_⟩, fun yp hy => ?_⟩
          · intro q hq
            rcases List.mem_append.1 hq with hq | hq
            · exact p3 q hq
            · rw [List.mem_singleton] at hq
              subst hq
              omega
          · refine ih (by omega) fun q q1 q2 q3 => ?_
            by_cases hq : q = r
            · subst hq; exact hn
            · exact ha q q1 (by omega) q3
          · exact srch_some (fun q q1 q2 => ha q q1 q2 (by omega)) hf hc hy
        · rw [if_neg (by simp; omega)]
          exact srch_none fun q q1 q2 => ha q q1 (by omega) q2
    exact key f (by omega) (Nat.le_refl _) (fun q q1 q2 => by omega)
abbrev cSets1 : Con := { A := (.cons .int (.cons (.ref .int) .nil)), R := (.cons .bool .nil), pre := fun x => 0 ≤ x.1 ∧ x.1 < 60 ∧ 0 ≤ x.2.1 ∧ x.2.1 < 4294967296, F := fun x => (!(x.2.1.toNat.testBit x.1.toNat), ()) }
def cSets1_0  (k : Int) (c0 : Int) (y0 : Bool) : Prop :=
  (0 ≤ k ∧ k < 64) ∧ (True ∧ (((IntKind.i64.wrap (BitVec.ofInt 64 (Int.fdiv c0 (2 ^ (Int.toNat k))) &&& BitVec.ofInt 64 (1 : Int)).toNat) == (0 : Int)) = y0 ∧ True))
theorem cSets1_law (h : ∀ (k : Int) (c0 : Int), cSets1.A.wf (k, c0, ()) → (0 ≤ k ∧ k < 60 ∧ 0 ≤ c0 ∧ c0 < 4294967296) → cSets1_0  k c0 (!(c0.toNat.testBit k.toNat))) : ConOK Go.Proofs.Try.prog 101 cSets1 := by
  refine lawL (Γ := []) (Θ := Th) (n := 9) [] trivial (by kernel_rfl) th_ok mix_ok Go.Proofs.Try.func101 (by kernel_rfl) ?_
  intro x hw hp Λ hC
  have h0 := h x.1 x.2.1 hw hp  
  exact Eq.mpr (by kernel_rfl) h0
theorem cSets1_ok : ConOK Go.Proofs.Try.prog 101 cSets1 := by
  refine cSets1_law ?_
  intro k c0 hw hp
  unfold cSets1_0
  obtain ⟨p1, p2, p3, p4⟩ := hp
  obtain ⟨b, rfl⟩ : ∃ b : Nat, c0 = b := ⟨c0.toNat, by omega⟩
  refine ⟨⟨p1, by omega⟩, trivial, ?_, trivial⟩
  rw [Int.toNat_natCast]
  exact bit_test b k.toNat (by omega)
theorem setOf_eq (n b : Nat) : ((nums n).filter fun r => !!((b : Int).toNat.testBit r.toNat)) = setOf n b := by
  unfold setOf
  simp only [Bool.not_not, Int.toNat_natCast]
abbrev cSets : Con := { A := (.cons .int .nil), R := (.cons (.sl (.sl .int)) .nil), pre := fun x => 0 ≤ x.1 ∧ x.1 ≤ 10, F := fun x => (setsL x.1.toNat, ()) }
def cSets_0 (Λ1 : Int → (List (List Int)) → Prop) (n : Int) (y0 : (List (List Int))) : Prop :=
  (0 ≤ n ∧ n < 64 ∧ inI ((1 : Int) * 2 ^ (Int.toNat n))) ∧ Λ1 (0 : Int) ([] : List (List Int))
def cSets_1 (Λ1 : Int → (List (List Int)) → Prop) (n : Int) (y0 : (List (List Int)))  (t7_1 : Int) (out_1 : (List (List Int))) : Prop :=
  if (decide (t7_1 < ((1 : Int) * 2 ^ (Int.toNat n)))) = true then ((0 ≤ n ∧ n ≤ 4294967296) ∧ ((∀ r', r' ∈ (nums n.toNat) → (fun (xx : (Int × Unit)) => 0 ≤ xx.1 ∧ xx.1 < 60 ∧ 0 ≤ t7_1 ∧ t7_1 < 4294967296, fun (xx : (Int × Unit)) => (!(t7_1.toNat.testBit xx.1.toNat), ())).1 (r', ())) ∧ (List.length out_1 + List.length [((nums n.toNat).filter (fun r' => !((fun (xx : (Int × Unit)) => 0 ≤ xx.1 ∧ xx.1 < 60 ∧ 0 ≤ t7_1 ∧ t7_1 < 4294967296, fun (xx : (Int × Unit)) => (!(t7_1.toNat.testBit xx.1.toNat), ())).2 (r', ())).1))] ≤ 4294967296 ∧ (inI (t7_1 + (1 : Int)) ∧ Λ1 (t7_1 + (1 : Int)) (out_1 ++ [((nums n.toNat).filter (fun r' => !((fun (xx : (Int × Unit)) => 0 ≤ xx.1 ∧ xx.1 < 60 ∧ 0 ≤ t7_1 ∧ t7_1 < 4294967296, fun (xx : (Int × Unit)) => (!(t7_1.toNat.testBit xx.1.toNat), ())).2 (r', ())).1))]))))) else (out_1 = y0 ∧ True)
theorem cSets_law (h : ∀ (n : Int), cSets.A.wf (n, ()) → (0 ≤ n ∧ n ≤ 10) → ∀ (Λ1 : Int → (List (List Int)) → Prop), (∀ (t7_1 : Int) (out_1 : (List (List Int))), cSets_1 Λ1 n (setsL n.toNat) t7_1 out_1 → Λ1 t7_1 out_1) → cSets_0 Λ1 n (setsL n.toNat)) : ConOK Go.Proofs.Try.prog 58 cSets := by
  refine lawX (X := { subs := [], frz := [], U := [], mul := [], nst := [], nls := [], itf := none, inp := [(66, cDelF)], arrs := [] }) (hX := xok0 _ ⟨cDelF_ok, trivial⟩) (Γ := [(67, cAll8), (101, cSets1)]) (Θ := Th) (n := 19) [([1, 1, 0, 1, 0], ⟨[(0, false), (3, true), (6, true), (7, true)], [(3, true)]⟩)] ⟨cAll8_ok, cSets1_ok, trivial⟩ (by kernel_rfl) th_ok mix_ok Go.Proofs.Try.func58 (by kernel_rfl) ?_
  intro x hw hp Λ hC
  have h0 := h x.1 hw hp (fun t7_1 out_1 => Λ [1, 1, 0, 1, 0] ([(0, .d false .int x.1), (3, .own 3 0), (6, .d true .int ((1 : Int) * 2 ^ (Int.toNat x.1))), (7, .d true .int t7_1)], [(3, .sl true (.sl .int) out_1)])) (fun t7_1 out_1 hb => hC [1, 1, 0, 1, 0] ([(0, .d false .int x.1), (3, .own 3 0), (6, .d true .int ((1 : Int) * 2 ^ (Int.toNat x.1))), (7, .d true .int t7_1)], [(3, .sl true (.sl .int) out_1)]) (Eq.mpr (by kernel_rfl) hb))
  exact Eq.mpr (by kernel_rfl) h0
theorem cSets_ok : ConOK Go.Proofs.Try.prog 58 cSets := by
  refine cSets_law ?_
  intro n hw hp Λ1 h1
  unfold cSets_0
  obtain ⟨m, rfl⟩ : ∃ m : Nat, n = m := ⟨n.toNat, by omega⟩
  simp only [Int.toNat_natCast] at h1 ⊢
  have hm : m ≤ 10 := by omega
  have h2 : 2 ^ m ≤ 1024 := Nat.le_trans (Nat.pow_le_pow_right (by omega) hm) (by decide)
  obtain ⟨N, hN⟩ : ∃ N : Nat, N = 2 ^ m := ⟨_, rfl⟩
  rw [← hN] at h2
  have e : (1 : Int) * 2 ^ m = (N : Int) := by rw [Int.one_mul, hN]; norm_cast
  refine ⟨⟨by omega, by omega, by rw [e]; unfold inI; omega⟩, ?_⟩
  refine upto (n := N) (Q := fun i => Λ1 i ((List.range i).map (setOf m))) ?_ ?_ 0 (Nat.zero_le _)
  · apply h1; unfold cSets_1
    rw [if_neg (by rw [decide_eq_true_eq, Int.toNat_natCast, e]; omega)]
    exact ⟨by unfold setsL; rw [hN], trivial⟩
  · intro i hi ih
    apply h1; unfold cSets_1
    rw [if_pos (by rw [decide_eq_true_eq, Int.toNat_natCast, e]; omega)]
    refine ⟨⟨by omega, by omega⟩, fun r hr => ?_, ?_, by unfold inI; omega, ?_⟩
    · have := nums_mem.1 hr
      exact ⟨this.1, by omega, by omega, by omega⟩
    · simp; omega
    · rw [setsL_take] at ih
      rw [setOf_eq, Int.toNat_natCast]
      exact ih
abbrev cIsNaN : Con := { A := (.cons .int .nil), R := (.cons .bool .nil), pre := fun x => True, F := fun x => (false, ()) }
def cIsNaN_0  (x : Int) (y0 : Bool) : Prop :=
  (x != x) = y0 ∧ True
theorem cIsNaN_law (h : ∀ (x : Int), cIsNaN.A.wf (x, ()) → cIsNaN_0  x false) : ConOK Go.Proofs.Try.prog 115 cIsNaN := by
  refine lawL (Γ := []) (Θ := Th) (n := 6) [] trivial (by kernel_rfl) th_ok mix_ok Go.Proofs.Try.func115 (by kernel_rfl) ?_
  intro x hw hp Λ hC
  have h0 := h x.1 hw  
  exact Eq.mpr (by kernel_rfl) h0
theorem cIsNaN_ok : ConOK Go.Proofs.Try.prog 115 cIsNaN := by
  refine cIsNaN_law ?_
  intro x hw
  unfold cIsNaN_0
  exact ⟨by simp, trivial⟩
abbrev cCmpI : Con := { A := (.cons .int (.cons .int .nil)), R := (.cons .int .nil), pre := fun x => True, F := fun x => (cmpI x.1 x.2.1, ()) }
def cCmpI_0  (x : Int) (y_ : Int) (y0 : Int) : Prop :=
  True ∧ (True ∧ (if (decide (x < y_)) = true then ((-1 : Int) = y0 ∧ True) else (if (decide (x > y_)) = true then ((1 : Int) = y0 ∧ True) else ((0 : Int) = y0 ∧ True))))
theorem cCmpI_law (h : ∀ (x : Int) (y_ : Int), cCmpI.A.wf (x, y_, ()) → cCmpI_0  x y_ (cmpI x y_)) : ConOK Go.Proofs.Try.prog 102 cCmpI := by
  refine lawL (Γ := [(115, cIsNaN)]) (Θ := Th) (n := 20) [] ⟨cIsNaN_ok, trivial⟩ (by kernel_rfl) th_ok mix_ok Go.Proofs.Try.func102 (by kernel_rfl) ?_
  intro x hw hp Λ hC
  have h0 := h x.1 x.2.1 hw  
  exact Eq.mpr (by kernel_rfl) h0
theorem cCmpI_ok : ConOK Go.Proofs.Try.prog 102 cCmpI := by
  refine cCmpI_law ?_
  intro x y_ hw
  unfold cCmpI_0
  unfold cmpI
  refine ⟨trivial, trivial, ?_⟩
  simp only [decide_eq_true_eq]
  split
  · exact ⟨rfl, trivial⟩
  · split
    · exact ⟨rfl, trivial⟩
    · exact ⟨rfl, trivial⟩
abbrev cCmpL : Con := { A := (.cons (.sl .int) (.cons (.sl .int) .nil)), R := (.cons .int .nil), pre := fun x => True, F := fun x => (cmpL x.1 x.2.1, ()) }
def cCmpL_0 (Λ1 : Int → Prop) (s1 : (List Int)) (s2 : (List Int)) (y0 : Int) : Prop :=
  Λ1 (0 : Int)
def cCmpL_1 (Λ1 : Int → Prop) (s1 : (List Int)) (s2 : (List Int)) (y0 : Int)  (t11_1 : Int) : Prop :=
  if (decide (t11_1 < (List.length s1 : Int))) = true then (idx t11_1 (List.length s1 : Int) ∧ (if (decide (t11_1 ≥ (List.length s2 : Int))) = true then ((1 : Int) = y0 ∧ True) else (idx t11_1 (List.length s2 : Int) ∧ (True ∧ (if ((cmpI (List.getD s1 (Int.toNat t11_1) 0) (List.getD s2 (Int.toNat t11_1) 0)) != (0 : Int)) = true then ((cmpI (List.getD s1 (Int.toNat t11_1) 0) (List.getD s2 (Int.toNat t11_1) 0)) = y0 ∧ True) else (inI (t11_1 + (1 : Int)) ∧ Λ1 (t11_1 + (1 : Int)))))))) else (if (decide ((List.length s1 : Int) < (List.length s2 : Int))) = true then ((-1 : Int) = y0 ∧ True) else ((0 : Int) = y0 ∧ True))
theorem cCmpL_law (h : ∀ (s1 : (List Int)) (s2 : (List Int)), cCmpL.A.wf (s1, s2, ()) → ∀ (Λ1 : Int → Prop), (∀ (t11_1 : Int), cCmpL_1 Λ1 s1 s2 (cmpL s1 s2) t11_1 → Λ1 t11_1) → cCmpL_0 Λ1 s1 s2 (cmpL s1 s2)) : ConOK Go.Proofs.Try.prog 59 cCmpL := by
  refine lawL (Γ := [(102, cCmpI)]) (Θ := Th) (n := 36) [([1, 0, 1, 0], ⟨[(0, false), (1, false), (9, false), (10, true), (11, true)], []⟩)] ⟨cCmpI_ok, trivial⟩ (by kernel_rfl) th_ok mix_ok Go.Proofs.Try.func59 (by kernel_rfl) ?_
  intro x hw hp Λ hC
  have h0 := h x.1 x.2.1 hw (fun t11_1 => Λ [1, 0, 1, 0] ([(0, .d false (.sl .int) x.1), (1, .d false (.sl .int) x.2.1), (9, .d false (.sl .int) x.1), (10, .d true .int (List.length x.1 : Int)), (11, .d true .int t11_1)], [])) (fun t11_1 hb => hC [1, 0, 1, 0] ([(0, .d false (.sl .int) x.1), (1, .d false (.sl .int) x.2.1), (9, .d false (.sl .int) x.1), (10, .d true .int (List.length x.1 : Int)), (11, .d true .int t11_1)], []) (Eq.mpr (by kernel_rfl) hb))
  exact Eq.mpr (by kernel_rfl) h0
theorem cCmpL_ok : ConOK Go.Proofs.Try.prog 59 cCmpL := by
  refine cCmpL_law ?_
  intro s1 s2 hw Λ1 h1
  unfold cCmpL_0
  have hl : s1.length ≤ 140737488355328 := hw.1.1
  have key : ∀ i, i ≤ s1.length → i ≤ s2.length → s1.take i = s2.take i → Λ1 (i : Int) := by
    refine upto ?_ ?_
    · intro h2 ha
      apply h1; unfold cCmpL_1
      rw [if_neg (by simp), cmpL_end ha h2]
      by_cases hlt : s1.length < s2.length
      · rw [if_pos (by simpa using hlt), if_pos hlt]; exact ⟨rfl, trivial⟩
      · rw [if_neg (by simpa using hlt), if_neg hlt]; exact ⟨rfl, trivial⟩
    · intro i hi ih h2 ha
      apply h1; unfold cCmpL_1
      rw [if_pos (by simpa using hi), Int.toNat_natCast]
      refine ⟨idx_nat hi, ?_⟩
      by_cases hlt : i < s2.length
      · rw [if_neg (by simpa using hlt)]
        refine ⟨idx_nat hlt, trivial, ?_⟩
        by_cases hv : s1.getD i 0 = s2.getD i 0
        · rw [hv, if_neg (by simp [cmpI])]
          exact ⟨inI_succ hi hl, ih hlt (by rw [take_snoc 0 hi, take_snoc 0 hlt, ha, hv])⟩
        · have hc : cmpI (s1.getD i 0) (s2.getD i 0) ≠ 0 := by
            unfold cmpI
            split
            · omega
            · split
              · omega
              · omega
          rw [if_pos (by rw [bne_iff_ne]; exact hc), cmpL_at ha hi hlt hv]
          exact ⟨rfl, trivial⟩
      · rw [if_pos (by simp; omega), cmpL_gt ha hi (by omega) h2]
        exact ⟨rfl, trivial⟩
  exact key 0 (Nat.zero_le _) (Nat.zero_le _) rfl
end Go.Tk
/- Plain facts of layer 8: what suite's functions say. No program in sight. -/
set_option linter.unusedSimpArgs false
set_option linter.unusedVariables false
set_option linter.unnecessarySimpa false
namespace Go.Tk
open Go Go.RowKit

def sumG (r l : List Int) : Int := (l.map fun g => r.getD g.toNat 0).sum
def inG (t : Ste) (l : List Int) : Prop := ∀ g ∈ l, 0 ≤ g ∧ g < goals8 t
def exclB (t : Ste) (l : List Int) : Bool := !(t.any fun r => decide (sumG r l > 1))
def better (a b : List Int) : Bool := decide (a.length > b.length) || (decide (a.length = b.length) && decide (cmpL a b < 0))
def pickO (t : Ste) (c : List Int) : List Int := c.map fun k => (openL t).getD k.toNat 0
def stepX (t : Ste) (best c : List Int) : List Int := if better (pickO t c) best = true ∧ exclB t (pickO t c) = true then pickO t c else best
def exclK (t : Ste) (k : Nat) : List Int := ((setsL (openL t).length).take k).foldl (stepX t) []
def exclT (t : Ste) : List Int := (setsL (openL t).length).foldl (stepX t) []
def others (t : Ste) (r : Int) : List Int := (nums t.length).filter fun k => !(k == r)
def essT (t : Ste) : List Int := (nums t.length).filter fun r => !coverB t (others t r)
def beatsB (t : Ste) (a b : Int) : Bool := !(a == b) && decide ((metL t [a]).length = (metL t [a, b]).length) && (decide ((metL t [a]).length > (metL t [b]).length) || decide (a < b))
def needT (t : Ste) : List Int := (nums t.length).filter fun r => (nums t.length).any fun k => beatsB t k r
def waitG (t : Ste) (l : List Int) (g : Int) : Int := idxF (fun r => hits t r g.toNat) l + 1
def waitL (t : Ste) (l : List Int) : Int := ((openL t).map (waitG t l)).sum

theorem sum_take {l : List Int} {f : Int → Int} {i : Nat} (hi : i < l.length) : ((l.take (i + 1)).map f).sum = ((l.take i).map f).sum + f (l.getD i 0) := by
  rw [take_snoc 0 hi, List.map_append, List.sum_append]
  simp
theorem sum_bound {l : List Int} {f : Int → Int} {a b : Int} (h : ∀ g ∈ l, a ≤ f g ∧ f g ≤ b) : a * l.length ≤ (l.map f).sum ∧ (l.map f).sum ≤ b * l.length := by
  induction l with
  | nil => simp
  | cons g l ih =>
    have h1 := h g (by simp)
    have h2 := ih fun g hg => h g (by simp [hg])
    simp only [List.map_cons, List.sum_cons, List.length_cons]
    rw [show a * ((l.length + 1 : Nat) : Int) = a * l.length + a by rw [Int.natCast_add, Int.mul_add]; simp, show b * ((l.length + 1 : Nat) : Int) = b * l.length + b by rw [Int.natCast_add, Int.mul_add]; simp]
    omega
theorem sum01 {l : List Int} {f : Int → Int} (h : ∀ g ∈ l, 0 ≤ f g ∧ f g ≤ 1) (i : Nat) : 0 ≤ ((l.take i).map f).sum ∧ ((l.take i).map f).sum ≤ l.length := by
  have := sum_bound (l := l.take i) (f := f) (a := 0) (b := 1) fun g hg => h g (List.mem_of_mem_take hg)
  have h2 : (l.take i).length ≤ l.length := by rw [List.length_take]; omega
  omega
theorem idxF_bound {α : Type} (p : α → Bool) (l : List α) : -1 ≤ idxF p l ∧ idxF p l ≤ l.length := by
  unfold idxF
  split
  · rename_i i e
    obtain ⟨h1, _⟩ := List.findIdx?_eq_some_iff_findIdx_eq.1 e
    omega
  · omega
theorem nums_filter_in (t : Ste) (p : Int → Bool) : inT t ((nums t.length).filter p) := fun r hr => nums_mem.1 ((List.mem_filter.1 hr).1)
theorem openL_len (t : Ste) : (openL t).length ≤ goals8 t := metL_len _ _
theorem openL_in (t : Ste) : inG t (openL t) := fun g h => metL_mem h
theorem setOf_mem {n b : Nat} {k : Int} (h : k ∈ setOf n b) : 0 ≤ k ∧ k < n := nums_mem.1 ((List.mem_filter.1 h).1)
theorem setsL_len (n : Nat) : (setsL n).length = 2 ^ n := by simp [setsL]
theorem setsL_get {n i : Nat} (hi : i < 2 ^ n) : (setsL n).getD i [] = setOf n i := by
  unfold setsL
  rw [List.getD_eq_getElem?_getD, List.getElem?_map, List.getElem?_range hi]; rfl
theorem setOf_len (n b : Nat) : (setOf n b).length ≤ n := by
  unfold setOf
  exact Nat.le_trans (List.length_filter_le ..) (by rw [nums_len]; exact Nat.le_refl _)
theorem pickO_len (t : Ste) (c : List Int) : (pickO t c).length = c.length := by simp [pickO]
theorem pickO_take (t : Ste) {c : List Int} {i : Nat} (hi : i < c.length) : pickO t (c.take (i + 1)) = pickO t (c.take i) ++ [(openL t).getD (c.getD i 0).toNat 0] := by
  unfold pickO
  rw [take_snoc 0 hi, List.map_append]; rfl
theorem pickO_in {t : Ste} {c : List Int} (h : ∀ k ∈ c, 0 ≤ k ∧ k < (openL t).length) : inG t (pickO t c) := by
  intro g hg
  unfold pickO at hg
  obtain ⟨k, hk, rfl⟩ := List.mem_map.1 hg
  exact openL_in t _ (mem_getD (by have := h k hk; omega))
theorem foldl_take {α β : Type} (d : α) (f : β → α → β) (b : β) {l : List α} {i : Nat} (hi : i < l.length) : (l.take (i + 1)).foldl f b = f ((l.take i).foldl f b) (l.getD i d) := by
  rw [take_snoc d hi, List.foldl_append]; rfl

end Go.Tk
set_option linter.unusedSimpArgs false
set_option linter.unusedVariables false
set_option linter.unnecessarySimpa false
namespace Go.Tk
open Go Go.RowKit
abbrev cExcl1 : Con := { A := (.cons (.sl .int) (.cons (.ref (.sl .int)) .nil)), R := (.cons .bool .nil), pre := fun x => ∀ g', g' ∈ x.2.1 → 0 ≤ g' ∧ g' < x.1.length ∧ 0 ≤ x.1.getD g'.toNat 0 ∧ x.1.getD g'.toNat 0 ≤ 1, F := fun x => (decide (sumG x.1 x.2.1 > 1), ()) }
def cExcl1_0 (Λ1 : Int → Int → Prop) (row : (List Int)) (c0 : (List Int)) (y0 : Bool) : Prop :=
  Λ1 (0 : Int) (0 : Int)
def cExcl1_1 (Λ1 : Int → Int → Prop) (row : (List Int)) (c0 : (List Int)) (y0 : Bool)  (n_1 : Int) (t9_1 : Int) : Prop :=
  if (decide (t9_1 < (List.length c0 : Int))) = true then (idx t9_1 (List.length c0 : Int) ∧ (idx (List.getD c0 (Int.toNat t9_1) 0) (List.length row : Int) ∧ (inI (n_1 + (List.getD row (Int.toNat (List.getD c0 (Int.toNat t9_1) 0)) 0)) ∧ (inI (t9_1 + (1 : Int)) ∧ Λ1 (n_1 + (List.getD row (Int.toNat (List.getD c0 (Int.toNat t9_1) 0)) 0)) (t9_1 + (1 : Int)))))) else ((decide (n_1 > (1 : Int))) = y0 ∧ True)
theorem cExcl1_law (h : ∀ (row : (List Int)) (c0 : (List Int)), cExcl1.A.wf (row, c0, ()) → (∀ g', g' ∈ c0 → 0 ≤ g' ∧ g' < row.length ∧ 0 ≤ row.getD g'.toNat 0 ∧ row.getD g'.toNat 0 ≤ 1) → ∀ (Λ1 : Int → Int → Prop), (∀ (n_1 : Int) (t9_1 : Int), cExcl1_1 Λ1 row c0 (decide (sumG row c0 > 1)) n_1 t9_1 → Λ1 n_1 t9_1) → cExcl1_0 Λ1 row c0 (decide (sumG row c0 > 1))) : ConOK Go.Proofs.Try.prog 104 cExcl1 := by
  refine lawL (Γ := []) (Θ := Th) (n := 22) [([1, 1, 0, 1, 0], ⟨[(0, false), (4, true), (7, false), (8, true), (9, true)], []⟩)] trivial (by kernel_rfl) th_ok mix_ok Go.Proofs.Try.func104 (by kernel_rfl) ?_
  intro x hw hp Λ hC
  have h0 := h x.1 x.2.1 hw hp (fun n_1 t9_1 => Λ [1, 1, 0, 1, 0] ([(0, .d false (.sl .int) x.1), (4, .d true .int n_1), (7, .d false (.sl .int) x.2.1), (8, .d true .int (List.length x.2.1 : Int)), (9, .d true .int t9_1)], [])) (fun n_1 t9_1 hb => hC [1, 1, 0, 1, 0] ([(0, .d false (.sl .int) x.1), (4, .d true .int n_1), (7, .d false (.sl .int) x.2.1), (8, .d true .int (List.length x.2.1 : Int)), (9, .d true .int t9_1)], []) (Eq.mpr (by kernel_rfl) hb))
  exact Eq.mpr (by kernel_rfl) h0
theorem cExcl1_ok : ConOK Go.Proofs.Try.prog 104 cExcl1 := by
  refine cExcl1_law ?_
  intro row c0 hw hp Λ1 h1
  unfold cExcl1_0
  have hl : c0.length ≤ 140737488355328 := hw.2.1.1
  have hs : ∀ i, 0 ≤ ((c0.take i).map fun g => row.getD g.toNat 0).sum ∧ ((c0.take i).map fun g => row.getD g.toNat 0).sum ≤ c0.length := sum01 fun g hg => (hp g hg).2.2
  refine upto (n := c0.length) (Q := fun i => Λ1 (((c0.take i).map fun g => row.getD g.toNat 0).sum) i) ?_ ?_ 0 (Nat.zero_le _)
  · rw [List.take_length]
    apply h1; unfold cExcl1_1
    rw [if_neg (by simp)]
    exact ⟨rfl, trivial⟩
  · intro i hi ih
    apply h1; unfold cExcl1_1
    have h2 := hp _ (mem_getD (d := 0) hi)
    have h3 := hs i
    rw [sum_take (f := fun g => row.getD g.toNat 0) hi] at ih
    simp only [Int.toNat_natCast]
    rw [if_pos (by simpa using hi)]
    generalize c0.getD i 0 = g at h2 ih ⊢
    exact ⟨idx_nat hi, ⟨h2.1, h2.2.1⟩, by unfold inI; omega, inI_succ hi hl, ih⟩
abbrev cIndexLL : Con := { A := (.cons (.sl (.sl .int)) (.cons (.fn (.cons (.sl .int) .nil) (.cons .bool .nil)) .nil)), R := (.cons .int .nil), pre := fun x => ∀ r', r' ∈ x.1 → x.2.1.1 (r', ()), F := fun x => (idxF (fun r' => (x.2.1.2 (r', ())).1) x.1, ()) }
def cIndexLL_0 (Λ1 : Int → Prop) (s : (List (List Int))) (f : (T.fn (.cons (.sl .int) .nil) (.cons .bool .nil)).den) (y0 : Int) : Prop :=
  Λ1 (0 : Int)
def cIndexLL_1 (Λ1 : Int → Prop) (s : (List (List Int))) (f : (T.fn (.cons (.sl .int) .nil) (.cons .bool .nil)).den) (y0 : Int)  (t8_1 : Int) : Prop :=
  if (decide (t8_1 < (List.length s : Int))) = true then (idx t8_1 (List.length s : Int) ∧ (f.1 ((List.getD s (Int.toNat t8_1) ([] : List Int)), ()) ∧ (if ((f.2 ((List.getD s (Int.toNat t8_1) ([] : List Int)), ())).1) = true then (t8_1 = y0 ∧ True) else (inI (t8_1 + (1 : Int)) ∧ Λ1 (t8_1 + (1 : Int)))))) else ((-1 : Int) = y0 ∧ True)
theorem cIndexLL_law (h : ∀ (s : (List (List Int))) (f : (T.fn (.cons (.sl .int) .nil) (.cons .bool .nil)).den), cIndexLL.A.wf (s, f, ()) → (∀ r', r' ∈ s → f.1 (r', ())) → ∀ (Λ1 : Int → Prop), (∀ (t8_1 : Int), cIndexLL_1 Λ1 s f (idxF (fun r' => (f.2 (r', ())).1) s) t8_1 → Λ1 t8_1) → cIndexLL_0 Λ1 s f (idxF (fun r' => (f.2 (r', ())).1) s)) : ConOK Go.Proofs.Try.prog 116 cIndexLL := by
  refine lawL (Γ := []) (Θ := Th) (n := 19) [([1, 0, 1, 0], ⟨[(0, false), (1, false), (7, true), (8, true)], []⟩)] trivial (by kernel_rfl) th_ok mix_ok Go.Proofs.Try.func116 (by kernel_rfl) ?_
  intro x hw hp Λ hC
  have h0 := h x.1 x.2.1 hw hp (fun t8_1 => Λ [1, 0, 1, 0] ([(0, .d false (.sl (.sl .int)) x.1), (1, .d false (.fn (.cons (.sl .int) .nil) (.cons .bool .nil)) x.2.1), (7, .d true .int (List.length x.1 : Int)), (8, .d true .int t8_1)], [])) (fun t8_1 hb => hC [1, 0, 1, 0] ([(0, .d false (.sl (.sl .int)) x.1), (1, .d false (.fn (.cons (.sl .int) .nil) (.cons .bool .nil)) x.2.1), (7, .d true .int (List.length x.1 : Int)), (8, .d true .int t8_1)], []) (Eq.mpr (by kernel_rfl) hb))
  exact Eq.mpr (by kernel_rfl) h0
theorem cIndexLL_ok : ConOK Go.Proofs.Try.prog 116 cIndexLL := by
  refine cIndexLL_law ?_
  intro s f hw hp Λ1 h1
  unfold cIndexLL_0
  refine upto (n := s.length) (Q := fun i => (s.take i).any (fun r => (f.2 (r, ())).1) = false → Λ1 i) ?_ ?_ 0 (Nat.zero_le _) rfl
  · intro ha
    rw [List.take_length] at ha
    apply h1; unfold cIndexLL_1; rw [if_neg (by simp), idxF_none ha]
    exact ⟨rfl, trivial⟩
  · intro i hi ih ha
    apply h1; unfold cIndexLL_1; rw [if_pos (by simpa using hi), Int.toNat_natCast]
    refine ⟨idx_nat hi, hp _ (mem_getD hi), ?_⟩
    cases hv : (f.2 (List.getD s i [], ())).1
    · rw [if_neg (by simp)]
      exact ⟨inI_succ hi hw.1.1, ih (any_take_next (p := fun r => (f.2 (r, ())).1) [] hi ha hv)⟩
    · rw [if_pos (by rfl), idxF_at (p := fun r => (f.2 (r, ())).1) [] hi ha hv]
      exact ⟨rfl, trivial⟩
abbrev cContLL : Con := { A := (.cons (.sl (.sl .int)) (.cons (.fn (.cons (.sl .int) .nil) (.cons .bool .nil)) .nil)), R := (.cons .bool .nil), pre := fun x => ∀ r', r' ∈ x.1 → x.2.1.1 (r', ()), F := fun x => (x.1.any (fun r' => (x.2.1.2 (r', ())).1), ()) }
def cContLL_0  (s : (List (List Int))) (f : (T.fn (.cons (.sl .int) .nil) (.cons .bool .nil)).den) (y0 : Bool) : Prop :=
  (∀ r', r' ∈ s → f.1 (r', ())) ∧ ((decide ((idxF (fun r' => (f.2 (r', ())).1) s) ≥ (0 : Int))) = y0 ∧ True)
theorem cContLL_law (h : ∀ (s : (List (List Int))) (f : (T.fn (.cons (.sl .int) .nil) (.cons .bool .nil)).den), cContLL.A.wf (s, f, ()) → (∀ r', r' ∈ s → f.1 (r', ())) → cContLL_0  s f (s.any (fun r' => (f.2 (r', ())).1))) : ConOK Go.Proofs.Try.prog 103 cContLL := by
  refine lawL (Γ := [(116, cIndexLL)]) (Θ := Th) (n := 9) [] ⟨cIndexLL_ok, trivial⟩ (by kernel_rfl) th_ok mix_ok Go.Proofs.Try.func103 (by kernel_rfl) ?_
  intro x hw hp Λ hC
  have h0 := h x.1 x.2.1 hw hp  
  exact Eq.mpr (by kernel_rfl) h0
theorem cContLL_ok : ConOK Go.Proofs.Try.prog 103 cContLL := by
  refine cContLL_law ?_
  intro s f hw hp
  unfold cContLL_0
  exact ⟨hp, idxF_any _ _, trivial⟩
abbrev cExcl : Con := { A := (.cons (.sl (.sl .int)) (.cons (.sl .int) .nil)), R := (.cons .bool .nil), pre := fun x => okT x.1 ∧ inG x.1 x.2.1, F := fun x => (exclB x.1 x.2.1, ()) }
def cExcl_0  (t : (List (List Int))) (set_ : (List Int)) (y0 : Bool) : Prop :=
  (∀ r', r' ∈ t → (fun (xx : ((List Int) × Unit)) => ∀ g', g' ∈ set_ → 0 ≤ g' ∧ g' < xx.1.length ∧ 0 ≤ xx.1.getD g'.toNat 0 ∧ xx.1.getD g'.toNat 0 ≤ 1, fun (xx : ((List Int) × Unit)) => (decide (sumG xx.1 set_ > 1), ())).1 (r', ())) ∧ ((!(t.any (fun r' => ((fun (xx : ((List Int) × Unit)) => ∀ g', g' ∈ set_ → 0 ≤ g' ∧ g' < xx.1.length ∧ 0 ≤ xx.1.getD g'.toNat 0 ∧ xx.1.getD g'.toNat 0 ≤ 1, fun (xx : ((List Int) × Unit)) => (decide (sumG xx.1 set_ > 1), ())).2 (r', ())).1))) = y0 ∧ True)
theorem cExcl_law (h : ∀ (t : (List (List Int))) (set_ : (List Int)), cExcl.A.wf (t, set_, ()) → (okT t ∧ inG t set_) → cExcl_0  t set_ (exclB t set_)) : ConOK Go.Proofs.Try.prog 60 cExcl := by
  refine lawX (X := { subs := [], frz := [3], U := [], mul := [], nst := [], nls := [], itf := none, inp := [], arrs := [] }) (hX := xok0 _ trivial) (Γ := [(103, cContLL), (104, cExcl1)]) (Θ := Th) (n := 9) [] ⟨cContLL_ok, cExcl1_ok, trivial⟩ (by kernel_rfl) th_ok mix_ok Go.Proofs.Try.func60 (by kernel_rfl) ?_
  intro x hw hp Λ hC
  have h0 := h x.1 x.2.1 hw hp  
  exact Eq.mpr (by kernel_rfl) h0
theorem cExcl_ok : ConOK Go.Proofs.Try.prog 60 cExcl := by
  refine cExcl_law ?_
  intro t set_ hw hp
  unfold cExcl_0
  obtain ⟨p1, p2⟩ := hp
  refine ⟨fun r hr g hg => ?_, rfl, trivial⟩
  obtain ⟨q1, q2⟩ := p1.2.2 r hr
  obtain ⟨q3, q4⟩ := p2 g hg
  have hlt : g.toNat < r.length := by omega
  refine ⟨q3, by show g < (r.length : Int); omega, ?_⟩
  rcases q2 _ (mem_getD (d := 0) hlt) with e | e
  · show 0 ≤ r.getD g.toNat 0 ∧ r.getD g.toNat 0 ≤ 1
    omega
  · show 0 ≤ r.getD g.toNat 0 ∧ r.getD g.toNat 0 ≤ 1
    omega
abbrev cExcluding : Con := { A := (.cons (.sl (.sl .int)) .nil), R := (.cons (.sl .int) (.cons .int .nil)), pre := fun x => True, F := fun x => ((if validT x.1 = 0 then exclT x.1 else []), validT x.1, ()) }
def cExcluding_0 (Λ1 : (List Int) → Int → Prop) (Λ2 : Int → (List Int) → Int → (List Int) → Prop) (t : (List (List Int))) (y0 : (List Int)) (y1 : Int) : Prop :=
  True ∧ (if ((validT t) != (0 : Int)) = true then (([] : List Int) = y0 ∧ (validT t) = y1 ∧ True) else (okT t ∧ ((0 ≤ (List.length (openL t) : Int) ∧ (List.length (openL t) : Int) ≤ 10) ∧ Λ1 ([] : List Int) (0 : Int))))
def cExcluding_1 (Λ1 : (List Int) → Int → Prop) (Λ2 : Int → (List Int) → Int → (List Int) → Prop) (t : (List (List Int))) (y0 : (List Int)) (y1 : Int)  (best_1 : (List Int)) (t23_1 : Int) : Prop :=
  if (decide (t23_1 < (List.length (setsL (List.length (openL t) : Int).toNat) : Int))) = true then (idx t23_1 (List.length (setsL (List.length (openL t) : Int).toNat) : Int) ∧ Λ2 t23_1 best_1 (0 : Int) ([] : List Int)) else (best_1 = y0 ∧ (0 : Int) = y1 ∧ True)
def cExcluding_2 (Λ1 : (List Int) → Int → Prop) (Λ2 : Int → (List Int) → Int → (List Int) → Prop) (t : (List (List Int))) (y0 : (List Int)) (y1 : Int) (t23_1 : Int) (best_2 : (List Int)) (t29_2 : Int) (set_2 : (List Int)) : Prop :=
  if (decide (t29_2 < (List.length (List.getD (setsL (List.length (openL t) : Int).toNat) (Int.toNat t23_1) ([] : List Int)) : Int))) = true then (idx t29_2 (List.length (List.getD (setsL (List.length (openL t) : Int).toNat) (Int.toNat t23_1) ([] : List Int)) : Int) ∧ (idx (List.getD (List.getD (setsL (List.length (openL t) : Int).toNat) (Int.toNat t23_1) ([] : List Int)) (Int.toNat t29_2) 0) (List.length (openL t) : Int) ∧ (List.length set_2 + List.length ([(List.getD (openL t) (Int.toNat (List.getD (List.getD (setsL (List.length (openL t) : Int).toNat) (Int.toNat t23_1) ([] : List Int)) (Int.toNat t29_2) 0)) 0)]) ≤ 4294967296 ∧ (inI (t29_2 + (1 : Int)) ∧ Λ2 t23_1 best_2 (t29_2 + (1 : Int)) (set_2 ++ [(List.getD (openL t) (Int.toNat (List.getD (List.getD (setsL (List.length (openL t) : Int).toNat) (Int.toNat t23_1) ([] : List Int)) (Int.toNat t29_2) 0)) 0)]))))) else (if (decide ((List.length set_2 : Int) > (List.length best_2 : Int))) = true then (true = true ∧ ((okT t ∧ inG t set_2) ∧ (True ∧ (if (bif true then (exclB t set_2) else false) = true then (inI (t23_1 + (1 : Int)) ∧ Λ1 set_2 (t23_1 + (1 : Int))) else (inI (t23_1 + (1 : Int)) ∧ Λ1 best_2 (t23_1 + (1 : Int))))))) else (if ((List.length set_2 : Int) == (List.length best_2 : Int)) = true then (True ∧ (True ∧ (True ∧ (if (bif false then true else (bif true then (decide ((cmpL set_2 best_2) < (0 : Int))) else false)) = true then ((okT t ∧ inG t set_2) ∧ (True ∧ (if (bif true then (exclB t set_2) else false) = true then (inI (t23_1 + (1 : Int)) ∧ Λ1 set_2 (t23_1 + (1 : Int))) else (inI (t23_1 + (1 : Int)) ∧ Λ1 best_2 (t23_1 + (1 : Int)))))) else (false = false ∧ (inI (t23_1 + (1 : Int)) ∧ Λ1 best_2 (t23_1 + (1 : Int)))))))) else (false = false ∧ (True ∧ (if (bif false then true else false) = true then ((okT t ∧ inG t set_2) ∧ (True ∧ (if (bif true then (exclB t set_2) else false) = true then (inI (t23_1 + (1 : Int)) ∧ Λ1 set_2 (t23_1 + (1 : Int))) else (inI (t23_1 + (1 : Int)) ∧ Λ1 best_2 (t23_1 + (1 : Int)))))) else (false = false ∧ (inI (t23_1 + (1 : Int)) ∧ Λ1 best_2 (t23_1 + (1 : Int)))))))))
theorem cExcluding_law (h : ∀ (t : (List (List Int))), cExcluding.A.wf (t, ()) → ∀ (Λ1 : (List Int) → Int → Prop) (Λ2 : Int → (List Int) → Int → (List Int) → Prop), (∀ (best_1 : (List Int)) (t23_1 : Int), cExcluding_1 Λ1 Λ2 t (if validT t = 0 then exclT t else []) (validT t) best_1 t23_1 → Λ1 best_1 t23_1) → (∀ (t23_1 : Int) (best_2 : (List Int)) (t29_2 : Int) (set_2 : (List Int)), cExcluding_2 Λ1 Λ2 t (if validT t = 0 then exclT t else []) (validT t) t23_1 best_2 t29_2 set_2 → Λ2 t23_1 best_2 t29_2 set_2) → cExcluding_0 Λ1 Λ2 t (if validT t = 0 then exclT t else []) (validT t)) : ConOK Go.Proofs.Try.prog 19 cExcluding := by
  refine lawL (Γ := [(59, cCmpL), (60, cExcl), (57, cOpen8), (58, cSets), (35, cVal8)]) (Θ := Th) (n := 67) [([1, 1, 1, 1, 0, 1, 0], ⟨[(0, false), (5, true), (6, true), (21, true), (22, true), (23, true)], [(18, true)]⟩), ([1, 1, 1, 1, 0, 1, 0, 0, 1, 1, 0, 0, 1, 1, 0, 1, 0], ⟨[(0, false), (5, true), (6, true), (9, true), (21, true), (22, true), (23, true), (27, true), (28, true), (29, true)], [(9, true), (18, true)]⟩)] ⟨cCmpL_ok, cExcl_ok, cOpen8_ok, cSets_ok, cVal8_ok, trivial⟩ (by kernel_rfl) th_ok mix_ok Go.Proofs.Try.func19 (by kernel_rfl) ?_
  intro x hw hp Λ hC
  have h0 := h x.1 hw (fun best_1 t23_1 => Λ [1, 1, 1, 1, 0, 1, 0] ([(0, .d false (.sl (.sl .int)) x.1), (5, .own 18 0), (6, .d true (.sl .int) best_1), (21, .d true (.sl (.sl .int)) (setsL (List.length (openL x.1) : Int).toNat)), (22, .d true .int (List.length (setsL (List.length (openL x.1) : Int).toNat) : Int)), (23, .d true .int t23_1)], [(18, .sl true .int (openL x.1))])) (fun t23_1 best_2 t29_2 set_2 => Λ [1, 1, 1, 1, 0, 1, 0, 0, 1, 1, 0, 0, 1, 1, 0, 1, 0] ([(0, .d false (.sl (.sl .int)) x.1), (5, .own 18 0), (6, .d true (.sl .int) best_2), (9, .own 9 0), (21, .d true (.sl (.sl .int)) (setsL (List.length (openL x.1) : Int).toNat)), (22, .d true .int (List.length (setsL (List.length (openL x.1) : Int).toNat) : Int)), (23, .d true .int t23_1), (27, .d true (.sl .int) (List.getD (setsL (List.length (openL x.1) : Int).toNat) (Int.toNat t23_1) ([] : List Int))), (28, .d true .int (List.length (List.getD (setsL (List.length (openL x.1) : Int).toNat) (Int.toNat t23_1) ([] : List Int)) : Int)), (29, .d true .int t29_2)], [(9, .sl true .int set_2), (18, .sl true .int (openL x.1))])) (fun best_1 t23_1 hb => hC [1, 1, 1, 1, 0, 1, 0] ([(0, .d false (.sl (.sl .int)) x.1), (5, .own 18 0), (6, .d true (.sl .int) best_1), (21, .d true (.sl (.sl .int)) (setsL (List.length (openL x.1) : Int).toNat)), (22, .d true .int (List.length (setsL (List.length (openL x.1) : Int).toNat) : Int)), (23, .d true .int t23_1)], [(18, .sl true .int (openL x.1))]) (Eq.mpr (by kernel_rfl) hb)) (fun t23_1 best_2 t29_2 set_2 hb => hC [1, 1, 1, 1, 0, 1, 0, 0, 1, 1, 0, 0, 1, 1, 0, 1, 0] ([(0, .d false (.sl (.sl .int)) x.1), (5, .own 18 0), (6, .d true (.sl .int) best_2), (9, .own 9 0), (21, .d true (.sl (.sl .int)) (setsL (List.length (openL x.1) : Int).toNat)), (22, .d true .int (List.length (setsL (List.length (openL x.1) : Int).toNat) : Int)), (23, .d true .int t23_1), (27, .d true (.sl .int) (List.getD (setsL (List.length (openL x.1) : Int).toNat) (Int.toNat t23_1) ([] : List Int))), (28, .d true .int (List.length (List.getD (setsL (List.length (openL x.1) : Int).toNat) (Int.toNat t23_1) ([] : List Int)) : Int)), (29, .d true .int t29_2)], [(9, .sl true .int set_2), (18, .sl true .int (openL x.1))]) (Eq.mpr (by kernel_rfl) hb))
  exact Eq.mpr (by kernel_rfl) h0
theorem cExcluding_ok : ConOK Go.Proofs.Try.prog 19 cExcluding := by
  refine cExcluding_law ?_
  intro t hw Λ1 Λ2 h1 h2
  unfold cExcluding_0
  refine ⟨trivial, ?_⟩
  by_cases h0 : validT t = 0
  · rw [if_neg (by simp [h0])]
    have ht := validT_ok.1 h0
    have ho := openL_len t
    have hg := ht.2.1
    refine ⟨ht, ⟨by omega, by omega⟩, ?_⟩
    obtain ⟨n, hn⟩ : ∃ n, n = (openL t).length := ⟨_, rfl⟩
    have hn10 : n ≤ 10 := by omega
    have h2n : 2 ^ n ≤ 1024 := Nat.le_trans (Nat.pow_le_pow_right (by omega) hn10) (by decide)
    have hsl := setsL_len n
    rw [if_pos h0, h0] at h1 h2
    refine upto (n := (setsL n).length) (Q := fun i => Λ1 (exclK t i) i) ?_ ?_ 0 (Nat.zero_le _)
    · apply h1; unfold cExcluding_1
      rw [Int.toNat_natCast, ← hn, if_neg (by simp)]
      refine ⟨?_, rfl, trivial⟩
      unfold exclK exclT
      rw [← hn, List.take_length]
    · intro i hi ih
      apply h1; unfold cExcluding_1
      rw [Int.toNat_natCast, ← hn, if_pos (by simpa using hi)]
      refine ⟨idx_nat hi, ?_⟩
      have hci : (setsL n).getD i [] = setOf n i := setsL_get (by omega)
      have hex : exclK t (i + 1) = stepX t (exclK t i) (setOf n i) := by
        unfold exclK
        rw [← hn, foldl_take [] (stepX t) [] hi, hci]
      rw [hex] at ih
      generalize exclK t i = best at ih ⊢
      have hcl := setOf_len n i
      have hcm : ∀ k ∈ setOf n i, 0 ≤ k ∧ k < (openL t).length := fun k hk => by rw [← hn]; exact setOf_mem hk
      obtain ⟨c, hc⟩ : ∃ c, c = setOf n i := ⟨_, rfl⟩
      rw [← hc] at ih hcl hcm
      refine upto (n := c.length) (Q := fun j => Λ2 (i : Int) best (j : Int) (pickO t (c.take j))) ?_ ?_ 0 (Nat.zero_le _)
      · rw [List.take_length]
        apply h2; unfold cExcluding_2
        rw [Int.toNat_natCast, Int.toNat_natCast, ← hn, hci, ← hc, if_neg (by simp)]
        have hin := pickO_in hcm
        have hinI : inI ((i : Int) + 1) := by unfold inI; omega
        have ih' : Λ1 (stepX t best c) ((i : Int) + 1) := ih
        unfold stepX better at ih'
        generalize pickO t c = set at ih' hin ⊢
        by_cases g1 : set.length > best.length
        · rw [if_pos (by simpa using g1)]
          refine ⟨rfl, ⟨ht, hin⟩, trivial, ?_⟩
          cases hx : exclB t set
          · rw [if_neg (by simp)]; rw [if_neg (by simp [hx])] at ih'; exact ⟨hinI, ih'⟩
          · rw [if_pos (by rfl)]; rw [if_pos (by simp [hx, g1])] at ih'; exact ⟨hinI, ih'⟩
        · rw [if_neg (by simpa using g1)]
          by_cases g2 : set.length = best.length
          · rw [if_pos (by simp [g2])]
            refine ⟨trivial, trivial, trivial, ?_⟩
            by_cases g3 : cmpL set best < 0
            · rw [if_pos (by simpa using g3)]
              refine ⟨⟨ht, hin⟩, trivial, ?_⟩
              cases hx : exclB t set
              · rw [if_neg (by simp)]; rw [if_neg (by simp [hx])] at ih'; exact ⟨hinI, ih'⟩
              · rw [if_pos (by rfl)]; rw [if_pos (by simp [hx, g2, g3])] at ih'; exact ⟨hinI, ih'⟩
            · rw [if_neg (by simpa using g3)]
              rw [if_neg (by simp [g2, g3])] at ih'
              exact ⟨rfl, hinI, ih'⟩
          · rw [if_neg (by simp; omega)]
            rw [if_neg (by simp [g1, g2])] at ih'
            refine ⟨rfl, trivial, ?_⟩
            rw [if_neg (by simp)]
            exact ⟨rfl, hinI, ih'⟩
      · intro j hj ihj
        apply h2; unfold cExcluding_2
        rw [Int.toNat_natCast, Int.toNat_natCast, Int.toNat_natCast, ← hn, hci, ← hc, if_pos (by simpa using hj)]
        have hk := hcm _ (mem_getD (d := 0) hj)
        rw [pickO_take t hj] at ihj
        refine ⟨idx_nat hj, ⟨hk.1, by omega⟩, ?_, by unfold inI; omega, ihj⟩
        rw [pickO_len, List.length_take]
        simp; omega
  · rw [if_pos (by simp [h0]), if_neg h0]
    exact ⟨rfl, rfl, trivial⟩
abbrev cEss2 : Con := { A := (.cons .int (.cons (.ref .int) .nil)), R := (.cons .bool .nil), pre := fun x => True, F := fun x => ((x.1 == x.2.1), ()) }
def cEss2_0  (k : Int) (c0 : Int) (y0 : Bool) : Prop :=
  (k == c0) = y0 ∧ True
theorem cEss2_law (h : ∀ (k : Int) (c0 : Int), cEss2.A.wf (k, c0, ()) → cEss2_0  k c0 (k == c0)) : ConOK Go.Proofs.Try.prog 70 cEss2 := by
  refine lawL (Γ := []) (Θ := Th) (n := 7) [] trivial (by kernel_rfl) th_ok mix_ok Go.Proofs.Try.func70 (by kernel_rfl) ?_
  intro x hw hp Λ hC
  have h0 := h x.1 x.2.1 hw  
  exact Eq.mpr (by kernel_rfl) h0
theorem cEss2_ok : ConOK Go.Proofs.Try.prog 70 cEss2 := by
  refine cEss2_law ?_
  intro k c0 hw
  unfold cEss2_0
  exact ⟨rfl, trivial⟩
abbrev cEss1 : Con := { A := (.cons .int (.cons (.ref (.sl (.sl .int))) .nil)), R := (.cons .bool .nil), pre := fun x => okT x.2.1, F := fun x => (coverB x.2.1 (others x.2.1 x.1), ()) }
def cEss1_0  (r : Int) (c0 : (List (List Int))) (y0 : Bool) : Prop :=
  (0 ≤ (List.length c0 : Int) ∧ (List.length c0 : Int) ≤ 4294967296) ∧ ((∀ r', r' ∈ (nums (List.length c0 : Int).toNat) → (fun (xx : (Int × Unit)) => True, fun (xx : (Int × Unit)) => ((xx.1 == r), ())).1 (r', ())) ∧ ((okT c0 ∧ inT c0 ((nums (List.length c0 : Int).toNat).filter (fun r' => !((fun (xx : (Int × Unit)) => True, fun (xx : (Int × Unit)) => ((xx.1 == r), ())).2 (r', ())).1))) ∧ ((coverB c0 ((nums (List.length c0 : Int).toNat).filter (fun r' => !((fun (xx : (Int × Unit)) => True, fun (xx : (Int × Unit)) => ((xx.1 == r), ())).2 (r', ())).1))) = y0 ∧ True)))
theorem cEss1_law (h : ∀ (r : Int) (c0 : (List (List Int))), cEss1.A.wf (r, c0, ()) → (okT c0) → cEss1_0  r c0 (coverB c0 (others c0 r))) : ConOK Go.Proofs.Try.prog 68 cEss1 := by
  refine lawX (X := { subs := [], frz := [2], U := [], mul := [], nst := [], nls := [], itf := none, inp := [(66, cDelF)], arrs := [] }) (hX := xok0 _ ⟨cDelF_ok, trivial⟩) (Γ := [(67, cAll8), (70, cEss2), (69, cIsCov)]) (Θ := Th) (n := 11) [] ⟨cAll8_ok, cEss2_ok, cIsCov_ok, trivial⟩ (by kernel_rfl) th_ok mix_ok Go.Proofs.Try.func68 (by kernel_rfl) ?_
  intro x hw hp Λ hC
  have h0 := h x.1 x.2.1 hw hp  
  exact Eq.mpr (by kernel_rfl) h0
theorem cEss1_ok : ConOK Go.Proofs.Try.prog 68 cEss1 := by
  refine cEss1_law ?_
  intro r c0 hw hp
  unfold cEss1_0
  have := hp.1
  refine ⟨⟨by omega, by omega⟩, fun _ _ => trivial, ⟨hp, ?_⟩, rfl, trivial⟩
  exact nums_filter_in c0 _
abbrev cEssential : Con := { A := (.cons (.sl (.sl .int)) .nil), R := (.cons (.osl .int) (.cons .int .nil)), pre := fun x => True, F := fun x => ((if validT x.1 = 0 then essT x.1 else []), validT x.1, ()) }
def cEssential_0  (t : (List (List Int))) (y0 : (List Int)) (y1 : Int) : Prop :=
  True ∧ (if ((validT t) != (0 : Int)) = true then ((validT t) = y1 ∧ ([] : List Int) = y0) else ((0 ≤ (List.length t : Int) ∧ (List.length t : Int) ≤ 4294967296) ∧ ((∀ r', r' ∈ (nums (List.length t : Int).toNat) → (fun (xx : (Int × Unit)) => okT t, fun (xx : (Int × Unit)) => (coverB t (others t xx.1), ())).1 (r', ())) ∧ ((0 : Int) = y1 ∧ ((nums (List.length t : Int).toNat).filter (fun r' => !((fun (xx : (Int × Unit)) => okT t, fun (xx : (Int × Unit)) => (coverB t (others t xx.1), ())).2 (r', ())).1)) = y0))))
theorem cEssential_law (h : ∀ (t : (List (List Int))), cEssential.A.wf (t, ()) → cEssential_0  t (if validT t = 0 then essT t else []) (validT t)) : ConOK Go.Proofs.Try.prog 22 cEssential := by
  refine lawX (X := { subs := [], frz := [1], U := [], mul := [], nst := [], nls := [], itf := none, inp := [(66, cDelF)], arrs := [] }) (hX := xok0 _ ⟨cDelF_ok, trivial⟩) (Γ := [(67, cAll8), (68, cEss1), (35, cVal8)]) (Θ := Th) (n := 15) [] ⟨cAll8_ok, cEss1_ok, cVal8_ok, trivial⟩ (by kernel_rfl) th_ok mix_ok Go.Proofs.Try.func22 (by kernel_rfl) ?_
  intro x hw hp Λ hC
  have h0 := h x.1 hw  
  exact Eq.mpr (by kernel_rfl) h0
theorem cEssential_ok : ConOK Go.Proofs.Try.prog 22 cEssential := by
  refine cEssential_law ?_
  intro t hw
  unfold cEssential_0
  refine ⟨trivial, ?_⟩
  by_cases h0 : validT t = 0
  · rw [if_neg (by simp [h0]), if_pos h0, h0]
    have ht := validT_ok.1 h0
    have := ht.1
    exact ⟨⟨by omega, by omega⟩, fun _ _ => ht, rfl, rfl⟩
  · rw [if_pos (by simp [h0]), if_neg h0]
    exact ⟨rfl, rfl⟩
theorem inT1 {t : Ste} {a : Int} (h : 0 ≤ a ∧ a < t.length) : inT t [a] := fun r hr => by rw [List.mem_singleton] at hr; subst hr; exact h
theorem inT2 {t : Ste} {a b : Int} (h : 0 ≤ a ∧ a < t.length) (h' : 0 ≤ b ∧ b < t.length) : inT t [a, b] := fun r hr => by
  rcases List.mem_cons.1 hr with rfl | hr
  · exact h
  · exact inT1 h' r hr
abbrev cBeats : Con := { A := (.cons (.sl (.sl .int)) (.cons .int (.cons .int .nil))), R := (.cons .bool .nil), pre := fun x => okT x.1 ∧ 0 ≤ x.2.1 ∧ x.2.1 < x.1.length ∧ 0 ≤ x.2.2.1 ∧ x.2.2.1 < x.1.length, F := fun x => (beatsB x.1 x.2.1 x.2.2.1, ()) }
def cBeats_0  (t : (List (List Int))) (a : Int) (b : Int) (y0 : Bool) : Prop :=
  (okT t ∧ inT t [a]) ∧ ((okT t ∧ inT t [a, b]) ∧ (if (a != b) = true then (True ∧ (if (bif true then ((List.length (metL t [a]) : Int) == (List.length (metL t [a, b]) : Int)) else false) = true then ((okT t ∧ inT t [b]) ∧ (if (decide ((List.length (metL t [a]) : Int) > (List.length (metL t [b]) : Int))) = true then (true = true ∧ (True ∧ ((bif true then true else false) = y0 ∧ True))) else (True ∧ (True ∧ ((bif true then (bif false then true else (decide (a < b))) else false) = y0 ∧ True))))) else (false = false ∧ (false = y0 ∧ True)))) else (false = false ∧ (false = false ∧ (false = y0 ∧ True)))))
theorem cBeats_law (h : ∀ (t : (List (List Int))) (a : Int) (b : Int), cBeats.A.wf (t, a, b, ()) → (okT t ∧ 0 ≤ a ∧ a < t.length ∧ 0 ≤ b ∧ b < t.length) → cBeats_0  t a b (beatsB t a b)) : ConOK Go.Proofs.Try.prog 75 cBeats := by
  refine lawL (Γ := [(81, cMet8)]) (Θ := Th) (n := 42) [] ⟨cMet8_ok, trivial⟩ (by kernel_rfl) th_ok mix_ok Go.Proofs.Try.func75 (by kernel_rfl) ?_
  intro x hw hp Λ hC
  have h0 := h x.1 x.2.1 x.2.2.1 hw hp  
  exact Eq.mpr (by kernel_rfl) h0
theorem cBeats_ok : ConOK Go.Proofs.Try.prog 75 cBeats := by
  refine cBeats_law ?_
  intro t a b hw hp
  unfold cBeats_0
  obtain ⟨p1, p2, p3, p4, p5⟩ := hp
  refine ⟨⟨p1, inT1 ⟨p2, p3⟩⟩, ⟨p1, inT2 ⟨p2, p3⟩ ⟨p4, p5⟩⟩, ?_⟩
  have hB : inT t [b] := inT1 ⟨p4, p5⟩
  unfold beatsB
  generalize metL t [a] = x
  generalize metL t [a, b] = y
  generalize metL t [b] = z
  by_cases e : a = b
  · rw [if_neg (by simp [e])]
    exact ⟨rfl, rfl, by simp [e], trivial⟩
  · rw [if_pos (by simp [e])]
    refine ⟨trivial, ?_⟩
    by_cases e2 : x.length = y.length
    · rw [if_pos (by simp [e2])]
      refine ⟨⟨p1, hB⟩, ?_⟩
      by_cases e3 : x.length > z.length
      · rw [if_pos (by simpa using e3)]
        refine ⟨rfl, trivial, ?_, trivial⟩
        rw [show decide (x.length > z.length) = true by simpa using e3, show decide (x.length = y.length) = true by simpa using e2]
        simp [e]
      · rw [if_neg (by simpa using e3)]
        refine ⟨trivial, trivial, ?_, trivial⟩
        rw [show decide (x.length > z.length) = false by simpa using e3, show decide (x.length = y.length) = true by simpa using e2]
        simp [e]
    · rw [if_neg (by simp; omega)]
      exact ⟨rfl, by simp [e2], trivial⟩
abbrev cNeed2 : Con := { A := (.cons .int (.cons (.ref (.sl (.sl .int))) (.cons (.ref .int) .nil))), R := (.cons .bool .nil), pre := fun x => okT x.2.1 ∧ 0 ≤ x.1 ∧ x.1 < x.2.1.length ∧ 0 ≤ x.2.2.1 ∧ x.2.2.1 < x.2.1.length, F := fun x => (beatsB x.2.1 x.1 x.2.2.1, ()) }
def cNeed2_0  (k : Int) (c0 : (List (List Int))) (c1 : Int) (y0 : Bool) : Prop :=
  (okT c0 ∧ 0 ≤ k ∧ k < c0.length ∧ 0 ≤ c1 ∧ c1 < c0.length) ∧ ((beatsB c0 k c1) = y0 ∧ True)
theorem cNeed2_law (h : ∀ (k : Int) (c0 : (List (List Int))) (c1 : Int), cNeed2.A.wf (k, c0, c1, ()) → (okT c0 ∧ 0 ≤ k ∧ k < c0.length ∧ 0 ≤ c1 ∧ c1 < c0.length) → cNeed2_0  k c0 c1 (beatsB c0 k c1)) : ConOK Go.Proofs.Try.prog 74 cNeed2 := by
  refine lawL (Γ := [(75, cBeats)]) (Θ := Th) (n := 9) [] ⟨cBeats_ok, trivial⟩ (by kernel_rfl) th_ok mix_ok Go.Proofs.Try.func74 (by kernel_rfl) ?_
  intro x hw hp Λ hC
  have h0 := h x.1 x.2.1 x.2.2.1 hw hp  
  exact Eq.mpr (by kernel_rfl) h0
theorem cNeed2_ok : ConOK Go.Proofs.Try.prog 74 cNeed2 := by
  refine cNeed2_law ?_
  intro k c0 c1 hw hp
  unfold cNeed2_0
  exact ⟨hp, rfl, trivial⟩
abbrev cNeed1 : Con := { A := (.cons .int (.cons (.ref (.sl (.sl .int))) .nil)), R := (.cons .bool .nil), pre := fun x => okT x.2.1 ∧ 0 ≤ x.1 ∧ x.1 < x.2.1.length, F := fun x => (!((nums x.2.1.length).any fun k' => beatsB x.2.1 k' x.1), ()) }
def cNeed1_0  (r : Int) (c0 : (List (List Int))) (y0 : Bool) : Prop :=
  (0 ≤ (List.length c0 : Int) ∧ (List.length c0 : Int) ≤ 4294967296) ∧ ((∀ r', r' ∈ (nums (List.length c0 : Int).toNat) → (fun (xx : (Int × Unit)) => okT c0 ∧ 0 ≤ xx.1 ∧ xx.1 < c0.length ∧ 0 ≤ r ∧ r < c0.length, fun (xx : (Int × Unit)) => (beatsB c0 xx.1 r, ())).1 (r', ())) ∧ ((!((nums (List.length c0 : Int).toNat).any (fun r' => ((fun (xx : (Int × Unit)) => okT c0 ∧ 0 ≤ xx.1 ∧ xx.1 < c0.length ∧ 0 ≤ r ∧ r < c0.length, fun (xx : (Int × Unit)) => (beatsB c0 xx.1 r, ())).2 (r', ())).1))) = y0 ∧ True))
theorem cNeed1_law (h : ∀ (r : Int) (c0 : (List (List Int))), cNeed1.A.wf (r, c0, ()) → (okT c0 ∧ 0 ≤ r ∧ r < c0.length) → cNeed1_0  r c0 (!((nums c0.length).any fun k' => beatsB c0 k' r))) : ConOK Go.Proofs.Try.prog 72 cNeed1 := by
  refine lawX (X := { subs := [], frz := [2], U := [], mul := [], nst := [], nls := [], itf := none, inp := [], arrs := [] }) (hX := xok0 _ trivial) (Γ := [(67, cAll8), (73, cContI8), (74, cNeed2)]) (Θ := Th) (n := 10) [] ⟨cAll8_ok, cContI8_ok, cNeed2_ok, trivial⟩ (by kernel_rfl) th_ok mix_ok Go.Proofs.Try.func72 (by kernel_rfl) ?_
  intro x hw hp Λ hC
  have h0 := h x.1 x.2.1 hw hp  
  exact Eq.mpr (by kernel_rfl) h0
theorem cNeed1_ok : ConOK Go.Proofs.Try.prog 72 cNeed1 := by
  refine cNeed1_law ?_
  intro r c0 hw hp
  unfold cNeed1_0
  obtain ⟨p1, p2, p3⟩ := hp
  have := p1.1
  refine ⟨⟨by omega, by omega⟩, fun k hk => ?_, rfl, trivial⟩
  rw [Int.toNat_natCast] at hk
  have := nums_mem.1 hk
  exact ⟨p1, this.1, this.2, p2, p3⟩
abbrev cNeedless : Con := { A := (.cons (.sl (.sl .int)) .nil), R := (.cons (.osl .int) (.cons .int .nil)), pre := fun x => True, F := fun x => ((if validT x.1 = 0 then needT x.1 else []), validT x.1, ()) }
def cNeedless_0  (t : (List (List Int))) (y0 : (List Int)) (y1 : Int) : Prop :=
  True ∧ (if ((validT t) != (0 : Int)) = true then ((validT t) = y1 ∧ ([] : List Int) = y0) else ((0 ≤ (List.length t : Int) ∧ (List.length t : Int) ≤ 4294967296) ∧ ((∀ r', r' ∈ (nums (List.length t : Int).toNat) → (fun (xx : (Int × Unit)) => okT t ∧ 0 ≤ xx.1 ∧ xx.1 < t.length, fun (xx : (Int × Unit)) => (!((nums t.length).any fun k' => beatsB t k' xx.1), ())).1 (r', ())) ∧ ((0 : Int) = y1 ∧ ((nums (List.length t : Int).toNat).filter (fun r' => !((fun (xx : (Int × Unit)) => okT t ∧ 0 ≤ xx.1 ∧ xx.1 < t.length, fun (xx : (Int × Unit)) => (!((nums t.length).any fun k' => beatsB t k' xx.1), ())).2 (r', ())).1)) = y0))))
theorem cNeedless_law (h : ∀ (t : (List (List Int))), cNeedless.A.wf (t, ()) → cNeedless_0  t (if validT t = 0 then needT t else []) (validT t)) : ConOK Go.Proofs.Try.prog 24 cNeedless := by
  refine lawX (X := { subs := [], frz := [1], U := [], mul := [], nst := [], nls := [], itf := none, inp := [(66, cDelF)], arrs := [] }) (hX := xok0 _ ⟨cDelF_ok, trivial⟩) (Γ := [(67, cAll8), (72, cNeed1), (35, cVal8)]) (Θ := Th) (n := 15) [] ⟨cAll8_ok, cNeed1_ok, cVal8_ok, trivial⟩ (by kernel_rfl) th_ok mix_ok Go.Proofs.Try.func24 (by kernel_rfl) ?_
  intro x hw hp Λ hC
  have h0 := h x.1 hw  
  exact Eq.mpr (by kernel_rfl) h0
theorem cNeedless_ok : ConOK Go.Proofs.Try.prog 24 cNeedless := by
  refine cNeedless_law ?_
  intro t hw
  unfold cNeedless_0
  refine ⟨trivial, ?_⟩
  by_cases h0 : validT t = 0
  · rw [if_neg (by simp [h0]), if_pos h0, h0]
    have ht := validT_ok.1 h0
    have := ht.1
    refine ⟨⟨by omega, by omega⟩, fun r hr => ?_, rfl, ?_⟩
    · rw [Int.toNat_natCast] at hr
      exact ⟨ht, (nums_mem.1 hr).1, (nums_mem.1 hr).2⟩
    · unfold needT
      simp only [Bool.not_not, Int.toNat_natCast]
  · rw [if_pos (by simp [h0]), if_neg h0]
    exact ⟨rfl, rfl⟩
abbrev cWait1 : Con := { A := (.cons .int (.cons (.ref (.sl (.sl .int))) (.cons (.ref .int) .nil))), R := (.cons .bool .nil), pre := fun x => okT x.2.1 ∧ 0 ≤ x.1 ∧ x.1 < x.2.1.length ∧ 0 ≤ x.2.2.1 ∧ x.2.2.1 < goals8 x.2.1, F := fun x => (hits x.2.1 x.1 x.2.2.1.toNat, ()) }
def cWait1_0  (r : Int) (c0 : (List (List Int))) (c1 : Int) (y0 : Bool) : Prop :=
  idx r (List.length c0 : Int) ∧ (idx c1 (List.length (List.getD c0 (Int.toNat r) ([] : List Int)) : Int) ∧ (((List.getD (List.getD c0 (Int.toNat r) ([] : List Int)) (Int.toNat c1) 0) == (1 : Int)) = y0 ∧ True))
theorem cWait1_law (h : ∀ (r : Int) (c0 : (List (List Int))) (c1 : Int), cWait1.A.wf (r, c0, c1, ()) → (okT c0 ∧ 0 ≤ r ∧ r < c0.length ∧ 0 ≤ c1 ∧ c1 < goals8 c0) → cWait1_0  r c0 c1 (hits c0 r c1.toNat)) : ConOK Go.Proofs.Try.prog 109 cWait1 := by
  refine lawL (Γ := []) (Θ := Th) (n := 13) [] trivial (by kernel_rfl) th_ok mix_ok Go.Proofs.Try.func109 (by kernel_rfl) ?_
  intro x hw hp Λ hC
  have h0 := h x.1 x.2.1 x.2.2.1 hw hp  
  exact Eq.mpr (by kernel_rfl) h0
theorem cWait1_ok : ConOK Go.Proofs.Try.prog 109 cWait1 := by
  refine cWait1_law ?_
  intro r c0 c1 hw hp
  unfold cWait1_0
  obtain ⟨p1, p2, p3, p4, p5⟩ := hp
  refine ⟨⟨p2, p3⟩, ⟨p4, ?_⟩, rfl, trivial⟩
  rw [okT_row p1 (by omega)]
  exact p5
abbrev cWait : Con := { A := (.cons (.sl (.sl .int)) (.cons (.sl .int) .nil)), R := (.cons .int .nil), pre := fun x => okT x.1 ∧ inT x.1 x.2.1 ∧ x.2.1.length ≤ 100, F := fun x => (waitL x.1 x.2.1, ()) }
def cWait_0 (Λ1 : Int → Int → Prop) (t : (List (List Int))) (order : (List Int)) (y0 : Int) : Prop :=
  okT t ∧ Λ1 (0 : Int) (0 : Int)
def cWait_1 (Λ1 : Int → Int → Prop) (t : (List (List Int))) (order : (List Int)) (y0 : Int)  (sum_1 : Int) (t11_1 : Int) : Prop :=
  if (decide (t11_1 < (List.length (openL t) : Int))) = true then (idx t11_1 (List.length (openL t) : Int) ∧ ((∀ r', r' ∈ order → (fun (xx : (Int × Unit)) => okT t ∧ 0 ≤ xx.1 ∧ xx.1 < t.length ∧ 0 ≤ (List.getD (openL t) (Int.toNat t11_1) 0) ∧ (List.getD (openL t) (Int.toNat t11_1) 0) < goals8 t, fun (xx : (Int × Unit)) => (hits t xx.1 (List.getD (openL t) (Int.toNat t11_1) 0).toNat, ())).1 (r', ())) ∧ (inI ((idxF (fun r' => ((fun (xx : (Int × Unit)) => okT t ∧ 0 ≤ xx.1 ∧ xx.1 < t.length ∧ 0 ≤ (List.getD (openL t) (Int.toNat t11_1) 0) ∧ (List.getD (openL t) (Int.toNat t11_1) 0) < goals8 t, fun (xx : (Int × Unit)) => (hits t xx.1 (List.getD (openL t) (Int.toNat t11_1) 0).toNat, ())).2 (r', ())).1) order) + (1 : Int)) ∧ (inI (sum_1 + ((idxF (fun r' => ((fun (xx : (Int × Unit)) => okT t ∧ 0 ≤ xx.1 ∧ xx.1 < t.length ∧ 0 ≤ (List.getD (openL t) (Int.toNat t11_1) 0) ∧ (List.getD (openL t) (Int.toNat t11_1) 0) < goals8 t, fun (xx : (Int × Unit)) => (hits t xx.1 (List.getD (openL t) (Int.toNat t11_1) 0).toNat, ())).2 (r', ())).1) order) + (1 : Int))) ∧ (inI (t11_1 + (1 : Int)) ∧ Λ1 (sum_1 + ((idxF (fun r' => ((fun (xx : (Int × Unit)) => okT t ∧ 0 ≤ xx.1 ∧ xx.1 < t.length ∧ 0 ≤ (List.getD (openL t) (Int.toNat t11_1) 0) ∧ (List.getD (openL t) (Int.toNat t11_1) 0) < goals8 t, fun (xx : (Int × Unit)) => (hits t xx.1 (List.getD (openL t) (Int.toNat t11_1) 0).toNat, ())).2 (r', ())).1) order) + (1 : Int))) (t11_1 + (1 : Int))))))) else (sum_1 = y0 ∧ True)
theorem cWait_law (h : ∀ (t : (List (List Int))) (order : (List Int)), cWait.A.wf (t, order, ()) → (okT t ∧ inT t order ∧ order.length ≤ 100) → ∀ (Λ1 : Int → Int → Prop), (∀ (sum_1 : Int) (t11_1 : Int), cWait_1 Λ1 t order (waitL t order) sum_1 t11_1 → Λ1 sum_1 t11_1) → cWait_0 Λ1 t order (waitL t order)) : ConOK Go.Proofs.Try.prog 88 cWait := by
  refine lawX (X := { subs := [], frz := [2], U := [], mul := [], nst := [], nls := [], itf := none, inp := [], arrs := [] }) (hX := xok0 _ trivial) (Γ := [(106, cIndexI8), (57, cOpen8), (109, cWait1)]) (Θ := Th) (n := 23) [([1, 1, 0, 1, 0], ⟨[(1, false), (2, false), (5, true), (9, true), (10, true), (11, true)], [(9, true)]⟩)] ⟨cIndexI8_ok, cOpen8_ok, cWait1_ok, trivial⟩ (by kernel_rfl) th_ok mix_ok Go.Proofs.Try.func88 (by kernel_rfl) ?_
  intro x hw hp Λ hC
  have h0 := h x.1 x.2.1 hw hp (fun sum_1 t11_1 => Λ [1, 1, 0, 1, 0] ([(1, .d false (.sl .int) x.2.1), (2, .ept false (.sl (.sl .int)) x.1), (5, .d true .int sum_1), (9, .own 9 0), (10, .d true .int (List.length (openL x.1) : Int)), (11, .d true .int t11_1)], [(9, .sl true .int (openL x.1))])) (fun sum_1 t11_1 hb => hC [1, 1, 0, 1, 0] ([(1, .d false (.sl .int) x.2.1), (2, .ept false (.sl (.sl .int)) x.1), (5, .d true .int sum_1), (9, .own 9 0), (10, .d true .int (List.length (openL x.1) : Int)), (11, .d true .int t11_1)], [(9, .sl true .int (openL x.1))]) (Eq.mpr (by kernel_rfl) hb))
  exact Eq.mpr (by kernel_rfl) h0
theorem cWait_ok : ConOK Go.Proofs.Try.prog 88 cWait := by
  refine cWait_law ?_
  intro t order hw hp Λ1 h1
  unfold cWait_0
  obtain ⟨p1, p2, p3⟩ := hp
  have ho := openL_len t
  have hg := p1.2.1
  refine ⟨p1, ?_⟩
  have hb : ∀ g ∈ openL t, 0 ≤ waitG t order g ∧ waitG t order g ≤ 101 := fun g _ => by
    unfold waitG
    have := idxF_bound (fun r => hits t r g.toNat) order
    omega
  have hs : ∀ i, 0 ≤ (((openL t).take i).map (waitG t order)).sum ∧ (((openL t).take i).map (waitG t order)).sum ≤ 1010 := fun i => by
    have := sum_bound (l := (openL t).take i) (f := waitG t order) (a := 0) (b := 101) fun g hg => hb g (List.mem_of_mem_take hg)
    have h2 : ((openL t).take i).length ≤ 10 := by rw [List.length_take]; omega
    omega
  refine upto (n := (openL t).length) (Q := fun i => Λ1 ((((openL t).take i).map (waitG t order)).sum) i) ?_ ?_ 0 (Nat.zero_le _)
  · rw [List.take_length]
    apply h1; unfold cWait_1
    rw [if_neg (by simp)]
    exact ⟨rfl, trivial⟩
  · intro i hi ih
    apply h1; unfold cWait_1
    have h2 := openL_in t _ (mem_getD (d := 0) hi)
    have h3 := hs i
    have h4 := hb _ (mem_getD (d := 0) hi)
    rw [sum_take (f := waitG t order) hi] at ih
    simp only [Int.toNat_natCast]
    rw [if_pos (by simpa using hi)]
    generalize (openL t).getD i 0 = g at h2 h4 ih ⊢
    unfold waitG at h4
    refine ⟨idx_nat hi, fun r hr => ⟨p1, (p2 r hr).1, (p2 r hr).2, h2.1, h2.2⟩, by unfold inI; omega, by unfold inI; omega, by unfold inI; omega, ih⟩
abbrev cCheap1 : Con := { A := (.cons .int .nil), R := (.cons .bool .nil), pre := fun x => True, F := fun x => (!(within x.1 1 99), ()) }
def cCheap1_0  (n : Int) (y0 : Bool) : Prop :=
  True ∧ ((!(within n (1 : Int) (99 : Int))) = y0 ∧ True)
theorem cCheap1_law (h : ∀ (n : Int), cCheap1.A.wf (n, ()) → cCheap1_0  n (!(within n 1 99))) : ConOK Go.Proofs.Try.prog 94 cCheap1 := by
  refine lawL (Γ := [(84, cWithin8)]) (Θ := Th) (n := 6) [] ⟨cWithin8_ok, trivial⟩ (by kernel_rfl) th_ok mix_ok Go.Proofs.Try.func94 (by kernel_rfl) ?_
  intro x hw hp Λ hC
  have h0 := h x.1 hw  
  exact Eq.mpr (by kernel_rfl) h0
theorem cCheap1_ok : ConOK Go.Proofs.Try.prog 94 cCheap1 := by
  refine cCheap1_law ?_
  intro n hw
  unfold cCheap1_0
  exact ⟨trivial, rfl, trivial⟩
end Go.Tk
set_option linter.unusedSimpArgs false
set_option linter.unusedVariables false
set_option linter.unnecessarySimpa false
namespace Go.Proofs
open Go.RowKit Go.Sort Go.Shelf
shelf_lay_g SlLaysM.n5 Slgm 5 at Try 118 as Try.sortI
end Go.Proofs
namespace Go.Tk
open Go Go.RowKit

/-! ### slices.Sort at numbers -/
theorem repL_ints {P : Program} {w : World} {S : Nat → Prop} : ∀ {xs : List Int} {cs : List Value}, repL ((reps P .int).c w S) xs cs → cs = xs.map (Value.int .i64) ∧ ∀ x ∈ xs, inI x
  | [], cs, h => ⟨h, by simp⟩
  | x :: xs, _, ⟨c1, c2, rfl, h1, h2⟩ => by
    obtain ⟨e, hi⟩ := h1
    obtain ⟨e2, hi2⟩ := repL_ints h2
    subst e; subst e2
    refine ⟨rfl, fun y hy => ?_⟩
    rcases List.mem_cons.1 hy with rfl | hy
    · exact hi
    · exact hi2 y hy
theorem repL_of_ints {P : Program} {w : World} {S : Nat → Prop} : ∀ {xs : List Int}, (∀ x ∈ xs, inI x) → repL ((reps P .int).c w S) xs (xs.map (Value.int .i64))
  | [], _ => rfl
  | x :: xs, h => ⟨[.int .i64 x], xs.map (Value.int .i64), rfl, ⟨rfl, h x (by simp)⟩, repL_of_ints fun y hy => h y (by simp [hy])⟩

def sortL (xs : List Int) : List Int := xs.mergeSort fun x y => decide (x ≤ y)
theorem sortL_len (xs : List Int) : (sortL xs).length = xs.length := by unfold sortL; exact List.length_mergeSort _
theorem sortL_perm (xs : List Int) : (sortL xs).Perm xs := List.mergeSort_perm ..

theorem grow_heap_lt {w : World} {os : Array Obj} {i : Nat} (h : i < w.heap.size) : (Sort.grow w os).heap[i]? = w.heap[i]? := by
  unfold Sort.grow
  exact Array.getElem?_append_left h

theorem putRow_heap {w : World} {n b off : Nat} {xs ys : List Int} {cur : Array Value} {e : TypeId} (h : w.heap[b]? = some (.cells cur e (0, 0))) (hl : ys.length = xs.length) (hx : (cur.toList.drop off).take (xs.length * 1) = xs.map (Value.int .i64)) :
    ∃ cur' : Array Value, (Sort.putRow (Value.int .i64) (Sort.ahead w n) b off ys.toArray).heap[b]? = some (.cells cur' e (0, 0)) ∧ cur'.size = cur.size ∧ (cur'.toList.drop off).take (ys.length * 1) = ys.map (Value.int .i64) := by
  refine ⟨Sort.putCells (Value.int .i64) off ys.toArray cur, ?_, by simp [Sort.putCells], ?_⟩
  · unfold Sort.putRow Sort.mapBlock
    have hb : (Sort.ahead w n).heap[b]? = some (.cells cur e (0, 0)) := h
    rw [Array.getElem?_modify, if_pos rfl, hb]
    rfl
  · have hlen : off + xs.length ≤ cur.size ∨ xs = [] := by
      cases xs with
      | nil => exact .inr rfl
      | cons x xs =>
        left
        have := congrArg List.length hx
        simp only [List.length_take, List.length_drop, List.length_map, Array.length_toList, List.length_cons] at this ⊢
        omega
    apply List.ext_getElem?
    intro i
    rw [List.getElem?_take, List.getElem?_map]
    by_cases hi : i < ys.length
    · rw [if_pos (by omega), List.getElem?_drop, Array.getElem?_toList]
      have hsz : off + i < cur.size := by
        rcases hlen with hlen | rfl
        · omega
        · rw [List.length_nil] at hl; omega
      unfold Sort.putCells
      rw [Array.getElem?_mapIdx, Array.getElem?_eq_getElem hsz]
      simp [hi]
    · rw [if_neg (by omega), List.getElem?_eq_none (by omega)]
      rfl

abbrev cSortI : InC := { a := .int, B := .nil, pre := fun xs x => True, F := fun xs x => sortL xs, ret := false }
theorem cSortI_ok : FunOK Go.Proofs.Try.prog 118 ∧ InF Go.Proofs.Try.prog 118 cSortI := by
  refine ⟨funB_ok (by kernel_rfl), ?_⟩
  intro w S xs x v ob vs hown hnS hv _
  obtain ⟨rfl, _⟩ : vs = [] ∧ _ := hv
  rcases hown with ⟨rfl, rfl, rfl⟩ | ⟨b, off, cap, cur, e, rfl, rfl, _, h4, h5, h6, h7, h8⟩
  · refine (Go.Proofs.AnyM.slices_Sort_int_none Go.Proofs.Try.sortI none 0 w).mono ?_
    rintro en w' ⟨rfl, rfl⟩
    exact ⟨.slice none 0 0, none, ⟨⟨_, rfl⟩, rfl, rfl⟩, .inl ⟨rfl, by simp [sortL], rfl⟩, fun b o e => (by cases e), ⟨rfl, rfl, rfl, Nat.le_refl _, fun _ _ _ => rfl⟩⟩
  · change List Int at xs
    obtain ⟨hx, hin⟩ := repL_ints h8
    have hx : (cur.toList.drop off).take (xs.length * 1) = xs.map (Value.int .i64) := hx
    have hb : b < w.heap.size := (Array.getElem?_eq_some_iff.1 h4).1
    have hH : Sort.Holds (Value.int .i64) w b off xs.toArray := by
      intro j hj
      have hj : j < xs.length := by simpa using hj
      constructor
      · rw [cell_of_row w b (off + j) cur e (0, 0) h4]
        have h1 := congrArg (fun l => l[j]?) hx
        simp only [List.getElem?_take, List.getElem?_drop, List.getElem?_map] at h1
        rw [if_pos (by omega), List.getElem?_eq_getElem hj] at h1
        rw [← Array.getElem?_toList, h1]
        simp [hj]
      · unfold World.frozen?
        rw [h4]
        simp
    refine (Go.Proofs.AnyM.slices_Sort_int Go.Proofs.Try.sortI b off cap xs w hH hb (by omega)).mono ?_
    rintro en w' ⟨rfl, n, os, hw'⟩
    have hw' : w' = Sort.grow (Sort.putRow (Value.int .i64) (Sort.ahead w n) b off (sortL xs).toArray) os := hw'
    subst hw'
    obtain ⟨cur', c1, c2, c3⟩ := putRow_heap (n := n) h4 (sortL_len xs) hx
    have hsz : (Sort.putRow (Value.int .i64) (Sort.ahead w n) b off (sortL xs).toArray).heap.size = w.heap.size := by
      rw [Sort.size_putRow]; rfl
    have hw' : (Sort.grow (Sort.putRow (Value.int .i64) (Sort.ahead w n) b off (sortL xs).toArray) os).heap[b]? = some (.cells cur' e (0, 0)) := by
      rw [grow_heap_lt (by rw [hsz]; exact hb)]; exact c1
    have hl : (sortL xs).length = xs.length := sortL_len xs
    refine ⟨.slice (some ⟨b, off, none⟩) xs.length cap, some (b, off), ⟨⟨_, rfl⟩, rfl, rfl⟩, .inr ⟨b, off, cap, cur', e, rfl, ?_, trivial, hw', ?_, ?_, ?_, ?_⟩, fun b' o e => .inr ⟨o, e⟩, ?_⟩
    · show _ = Value.slice _ (sortL xs).length cap
      rw [hl]
    · show (sortL xs).length ≤ cap
      rw [hl]; exact h5
    · show (sortL xs).length ≤ _ ∧ _
      rw [hl]; exact h6
    · rw [c2]; exact h7
    · show repL _ (sortL xs) ((cur'.toList.drop off).take ((sortL xs).length * 1))
      rw [c3]
      exact repL_of_ints fun y hy => hin y ((sortL_perm xs).mem_iff.1 hy)
    · refine ⟨rfl, rfl, rfl, ?_, fun i hi hne => ?_⟩
      · unfold Sort.grow
        rw [Array.size_append, hsz]; omega
      · rw [grow_heap_lt (by rw [hsz]; exact hi)]
        have hne : b ≠ i := fun h => hne off (by rw [h])
        unfold Sort.putRow Sort.mapBlock
        show (Array.modify w.heap b _)[i]? = _
        rw [Array.getElem?_modify, if_neg hne]
theorem map_tup (l : List Int) : ((l.map fun v' => (v', ())).map fun v' : Int × Unit => v'.1) = l := by
  rw [List.map_map]
  exact List.map_id l
abbrev cVals1 : Con := { A := (.cons (.ref (.sl .int)) .nil), R := .seq false (.cons .int .nil), pre := fun _ => True, F := fun x => ((True, x.1.map fun v' => (v', ())) : Prop × List (Int × Unit)) }
def cVals1_0 (Λ1 : Int → Nat → Prop) (c0 : (List Int)) (y0 : List (Int × Unit)) : Prop :=
  Λ1 (0 : Int) 0
def cVals1_1 (Λ1 : Int → Nat → Prop) (c0 : (List Int)) (y0 : List (Int × Unit))  (t7_1 : Int) (k_1 : Nat) : Prop :=
  if (decide (t7_1 < (List.length c0 : Int))) = true then (idx t7_1 (List.length c0 : Int) ∧ (y0[k_1]? = some ((List.getD c0 (Int.toNat t7_1) 0), ()) ∧ (inI (t7_1 + (1 : Int)) ∧ Λ1 (t7_1 + (1 : Int)) (k_1 + 1)) ∧ True)) else k_1 = List.length y0
theorem cVals1_law (h : ∀ (c0 : (List Int)), cVals1.A.wf (c0, ()) → ((True, c0.map fun v' => (v', ()))).1 → ∀ (Λ1 : Int → Nat → Prop), (∀ (t7_1 : Int) (k_1 : Nat), cVals1_1 Λ1 c0 ((True, c0.map fun v' => (v', ()))).2 t7_1 k_1 → Λ1 t7_1 k_1) → cVals1_0 Λ1 c0 ((True, c0.map fun v' => (v', ()))).2) : ConOK Go.Proofs.Try.prog 119 cVals1 := by
  refine lawIt (X := { subs := [], frz := [], U := [], mul := [], nst := [], nls := [], itf := some false, inp := [], arrs := [] }) (hX := xok0 _ trivial) (Γ := []) (Θ := Th) (n := 16) [([1, 0], ⟨[(0, true), (5, false), (6, true), (7, true)], [(5000000, true)]⟩)] trivial (by kernel_rfl) th_ok mix_ok Go.Proofs.Try.func119 (by kernel_rfl) ?_
  intro x hw hp Λ hC
  have h0 := h x.1 hw hp (fun t7_1 k_1 => Λ [1, 0] ([(0, .yld), (5, .d false (.sl .int) x.1), (6, .d true .int (List.length x.1 : Int)), (7, .d true .int t7_1)], [(5000000, .it (.cons .int .nil) (cVals1.F x).2 k_1)])) (fun t7_1 k_1 hb => hC [1, 0] ([(0, .yld), (5, .d false (.sl .int) x.1), (6, .d true .int (List.length x.1 : Int)), (7, .d true .int t7_1)], [(5000000, .it (.cons .int .nil) (cVals1.F x).2 k_1)]) (Eq.mpr (by kernel_rfl) hb))
  exact Eq.mpr (by kernel_rfl) h0
theorem cVals1_ok : ConOK Go.Proofs.Try.prog 119 cVals1 := by
  refine cVals1_law ?_
  intro c0 hw hp Λ1 h1
  unfold cVals1_0
  have hl : c0.length ≤ 140737488355328 := hw.1.1
  refine upto (n := c0.length) (Q := fun i => Λ1 i i) ?_ ?_ 0 (Nat.zero_le _)
  · apply h1; unfold cVals1_1
    rw [if_neg (by simp), List.length_map]
  · intro i hi ih
    apply h1; unfold cVals1_1
    rw [if_pos (by simpa using hi), Int.toNat_natCast]
    refine ⟨idx_nat hi, ?_, ⟨inI_succ hi hl, ih⟩, trivial⟩
    rw [List.getElem?_map, getElem?_of_getD (d := 0) hi]; rfl
abbrev cVals : Con := { A := (.cons (.sl .int) .nil), R := (.cons (.seq false (.cons .int .nil)) .nil), pre := fun x => True, F := fun x => ((True, x.1.map fun v' => (v', ())), ()), al := true }
def cVals_0  (s : (List Int)) (y0 : (Prop × List (Int × Unit))) : Prop :=
  ((True, s.map fun v' => (v', ()))) = y0 ∧ True
theorem cVals_law (h : ∀ (s : (List Int)), cVals.A.wf (s, ()) → cVals_0  s (True, s.map fun v' => (v', ()))) : ConOK Go.Proofs.Try.prog 113 cVals := by
  refine lawX (X := { subs := [], frz := [1], U := [], mul := [], nst := [], nls := [], itf := none, inp := [], arrs := [] }) (hX := xok0 _ trivial) (Γ := [(119, cVals1)]) (Θ := Th) (n := 4) [] ⟨cVals1_ok, trivial⟩ (by kernel_rfl) th_ok mix_ok Go.Proofs.Try.func113 (by kernel_rfl) ?_
  intro x hw hp Λ hC
  have h0 := h x.1 hw  
  exact Eq.mpr (by kernel_rfl) h0
theorem cVals_ok : ConOK Go.Proofs.Try.prog 113 cVals := by
  refine cVals_law ?_
  intro s hw
  unfold cVals_0
  exact ⟨rfl, trivial⟩
abbrev cAppSeq : Con := { A := (.cons (.seq false (.cons .int .nil)) .nil), R := (.cons (.osl .int) .nil), pre := fun x => x.1.1 ∧ x.1.2.length ≤ 1000000, F := fun x => (x.1.2.map fun v' => v'.1, ()) }
def cAppSeq_0 (Λ1 : (List (List Int)) → Nat → Prop) (seq : (Prop × List (Int × Unit))) (y0 : (List Int)) : Prop :=
  seq.1 ∧ Λ1 (List.replicate 1 ([] : List Int)) 0
def cAppSeq_1 (Λ1 : (List (List Int)) → Nat → Prop) (seq : (Prop × List (Int × Unit))) (y0 : (List Int))  (s_1 : (List (List Int))) (k_1 : Nat) : Prop :=
  (∀ e1 : (Int × Unit), seq.2[k_1]? = some e1 → (List.length (List.getD s_1 0 ([] : List Int)) + List.length [e1.1] ≤ 4294967296 ∧ (0 = 0 ∧ Λ1 (List.set s_1 0 ((List.getD s_1 0 ([] : List Int)) ++ [e1.1])) (k_1 + 1)))) ∧ (List.length seq.2 ≤ k_1 → (List.getD s_1 0 ([] : List Int)) = y0)
theorem cAppSeq_law (h : ∀ (seq : (Prop × List (Int × Unit))), cAppSeq.A.wf (seq, ()) → (seq.1 ∧ seq.2.length ≤ 1000000) → ∀ (Λ1 : (List (List Int)) → Nat → Prop), (∀ (s_1 : (List (List Int))) (k_1 : Nat), cAppSeq_1 Λ1 seq (seq.2.map fun v' => v'.1) s_1 k_1 → Λ1 s_1 k_1) → cAppSeq_0 Λ1 seq (seq.2.map fun v' => v'.1)) : NilF Go.Proofs.Try.prog 120 cAppSeq := by
  refine lawN (X := { subs := [], frz := [], U := [], mul := [], nst := [2], nls := [], itf := none, inp := [], arrs := [] }) (hX := xok0 _ trivial) (Γ := []) (Θ := Th) (n := 13) [([1, 0, 1, 0], ⟨[(2, true), (4, true)], [(2, true), (4, true), (4000000, true)]⟩)] trivial (by kernel_rfl) th_ok mix_ok Go.Proofs.Try.func120 (by kernel_rfl) ?_
  intro x hw hp Λ hC
  have h0 := h x.1 hw hp (fun s_1 k_1 => Λ [1, 0, 1, 0] ([(2, .ptr 2 0 [.i 0]), (4, .own 4 0)], [(2, .nl true .int s_1 0 none), (4, .sl true .int ([] : List Int)), (4000000, .rg false (.cons .int .nil) x.1.2 k_1)])) (fun s_1 k_1 hb => hC [1, 0, 1, 0] ([(2, .ptr 2 0 [.i 0]), (4, .own 4 0)], [(2, .nl true .int s_1 0 none), (4, .sl true .int ([] : List Int)), (4000000, .rg false (.cons .int .nil) x.1.2 k_1)]) (Eq.mpr (by kernel_rfl) hb))
  exact Eq.mpr (by kernel_rfl) h0
theorem cAppSeq_ok : FunOK Go.Proofs.Try.prog 120 ∧ NilF Go.Proofs.Try.prog 120 cAppSeq := by
  refine ⟨funB_ok (by kernel_rfl), cAppSeq_law ?_⟩
  intro seq hw hp Λ1 h1
  unfold cAppSeq_0
  obtain ⟨p1, p2⟩ := hp
  refine ⟨p1, ?_⟩
  refine upto (n := seq.2.length) (Q := fun k => Λ1 [(seq.2.take k).map fun v' => v'.1] k) ?_ ?_ 0 (Nat.zero_le _)
  · apply h1; unfold cAppSeq_1
    refine ⟨fun e he => ?_, fun _ => ?_⟩
    · rw [List.getElem?_eq_none (Nat.le_refl _)] at he; cases he
    · rw [List.take_length]; rfl
  · intro k hk ih
    apply h1; unfold cAppSeq_1
    refine ⟨fun e he => ?_, fun h => absurd h (by omega)⟩
    have h2 : (seq.2.take (k + 1)).map (fun v' => v'.1) = (seq.2.take k).map (fun v' => v'.1) ++ [e.1] := by
      rw [List.take_add_one, he, List.map_append]; rfl
    rw [h2] at ih
    refine ⟨?_, rfl, ih⟩
    show ((seq.2.take k).map fun v' => v'.1).length + 1 ≤ 4294967296
    rw [List.length_map, List.length_take]
    omega
abbrev cCollect : Con := { A := (.cons (.seq false (.cons .int .nil)) .nil), R := (.cons (.osl .int) .nil), pre := fun x => x.1.1 ∧ x.1.2.length ≤ 1000000, F := fun x => (x.1.2.map fun v' => v'.1, ()) }
def cCollect_0  (seq : (Prop × List (Int × Unit))) (y0 : (List Int)) : Prop :=
  (seq.1 ∧ seq.2.length ≤ 1000000) ∧ (seq.2.map fun v' => v'.1) = y0
theorem cCollect_law (h : ∀ (seq : (Prop × List (Int × Unit))), cCollect.A.wf (seq, ()) → (seq.1 ∧ seq.2.length ≤ 1000000) → cCollect_0  seq (seq.2.map fun v' => v'.1)) : ConOK Go.Proofs.Try.prog 117 cCollect := by
  refine lawX (X := { subs := [], frz := [], U := [], mul := [], nst := [], nls := [], itf := none, inp := [], arrs := [], nilc := [(120, cAppSeq)] }) (hX := xok0 _ trivial (h7 := ⟨cAppSeq_ok, trivial⟩)) (Γ := []) (Θ := Th) (n := 5) [] trivial (by kernel_rfl) th_ok mix_ok Go.Proofs.Try.func117 (by kernel_rfl) ?_
  intro x hw hp Λ hC
  have h0 := h x.1 hw hp  
  exact Eq.mpr (by kernel_rfl) h0
theorem cCollect_ok : ConOK Go.Proofs.Try.prog 117 cCollect := by
  refine cCollect_law ?_
  intro seq hw hp
  unfold cCollect_0
  exact ⟨hp, rfl⟩
abbrev cSortedI : Con := { A := (.cons (.seq false (.cons .int .nil)) .nil), R := (.cons (.osl .int) .nil), pre := fun x => x.1.1 ∧ x.1.2.length ≤ 1000000, F := fun x => (sortL (x.1.2.map fun v' => v'.1), ()) }
def cSortedI_0  (seq : (Prop × List (Int × Unit))) (y0 : (List Int)) : Prop :=
  (seq.1 ∧ seq.2.length ≤ 1000000) ∧ (True ∧ (sortL (seq.2.map fun v' => v'.1)) = y0)
theorem cSortedI_law (h : ∀ (seq : (Prop × List (Int × Unit))), cSortedI.A.wf (seq, ()) → (seq.1 ∧ seq.2.length ≤ 1000000) → cSortedI_0  seq (sortL (seq.2.map fun v' => v'.1))) : ConOK Go.Proofs.Try.prog 112 cSortedI := by
  refine lawX (X := { subs := [], frz := [], U := [], mul := [], nst := [], nls := [], itf := none, inp := [(118, cSortI)], arrs := [] }) (hX := xok0 _ ⟨cSortI_ok, trivial⟩) (Γ := [(117, cCollect)]) (Θ := Th) (n := 9) [] ⟨cCollect_ok, trivial⟩ (by kernel_rfl) th_ok mix_ok Go.Proofs.Try.func112 (by kernel_rfl) ?_
  intro x hw hp Λ hC
  have h0 := h x.1 hw hp  
  exact Eq.mpr (by kernel_rfl) h0
theorem cSortedI_ok : ConOK Go.Proofs.Try.prog 112 cSortedI := by
  refine cSortedI_law ?_
  intro seq hw hp
  unfold cSortedI_0
  exact ⟨hp, trivial, rfl⟩
abbrev cEqualI : Con := { A := (.cons (.sl .int) (.cons (.sl .int) .nil)), R := (.cons .bool .nil), pre := fun x => x.1.length ≤ 1000000, F := fun x => (decide (x.1 = x.2.1), ()) }
def cEqualI_0 (Λ1 : Int → Prop) (s1 : (List Int)) (s2 : (List Int)) (y0 : Bool) : Prop :=
  if ((List.length s1 : Int) != (List.length s2 : Int)) = true then (false = y0 ∧ True) else Λ1 (0 : Int)
def cEqualI_1 (Λ1 : Int → Prop) (s1 : (List Int)) (s2 : (List Int)) (y0 : Bool)  (t13_1 : Int) : Prop :=
  if (decide (t13_1 < (List.length s1 : Int))) = true then (idx t13_1 (List.length s1 : Int) ∧ (idx t13_1 (List.length s2 : Int) ∧ (if ((List.getD s1 (Int.toNat t13_1) 0) != (List.getD s2 (Int.toNat t13_1) 0)) = true then (false = y0 ∧ True) else (inI (t13_1 + (1 : Int)) ∧ Λ1 (t13_1 + (1 : Int)))))) else (true = y0 ∧ True)
theorem cEqualI_law (h : ∀ (s1 : (List Int)) (s2 : (List Int)), cEqualI.A.wf (s1, s2, ()) → (s1.length ≤ 1000000) → ∀ (Λ1 : Int → Prop), (∀ (t13_1 : Int), cEqualI_1 Λ1 s1 s2 (decide (s1 = s2)) t13_1 → Λ1 t13_1) → cEqualI_0 Λ1 s1 s2 (decide (s1 = s2))) : ConOK Go.Proofs.Try.prog 111 cEqualI := by
  refine lawL (Γ := []) (Θ := Th) (n := 26) [([1, 1, 0, 1, 0], ⟨[(0, false), (1, false), (12, true), (13, true)], []⟩)] trivial (by kernel_rfl) th_ok mix_ok Go.Proofs.Try.func111 (by kernel_rfl) ?_
  intro x hw hp Λ hC
  have h0 := h x.1 x.2.1 hw hp (fun t13_1 => Λ [1, 1, 0, 1, 0] ([(0, .d false (.sl .int) x.1), (1, .d false (.sl .int) x.2.1), (12, .d true .int (List.length x.1 : Int)), (13, .d true .int t13_1)], [])) (fun t13_1 hb => hC [1, 1, 0, 1, 0] ([(0, .d false (.sl .int) x.1), (1, .d false (.sl .int) x.2.1), (12, .d true .int (List.length x.1 : Int)), (13, .d true .int t13_1)], []) (Eq.mpr (by kernel_rfl) hb))
  exact Eq.mpr (by kernel_rfl) h0
theorem cEqualI_ok : ConOK Go.Proofs.Try.prog 111 cEqualI := by
  refine cEqualI_law ?_
  intro s1 s2 hw hp Λ1 h1
  unfold cEqualI_0
  by_cases hl : s1.length = s2.length
  · rw [if_neg (by simp [hl])]
    refine upto (n := s1.length) (Q := fun i => s1.take i = s2.take i → Λ1 i) ?_ ?_ 0 (Nat.zero_le _) rfl
    · intro ha
      rw [List.take_length, List.take_of_length_le (by omega)] at ha
      apply h1; unfold cEqualI_1; rw [if_neg (by simp)]
      exact ⟨by simp [ha], trivial⟩
    · intro i hi ih ha
      apply h1; unfold cEqualI_1; rw [if_pos (by simpa using hi), Int.toNat_natCast]
      refine ⟨idx_nat hi, idx_nat (by omega), ?_⟩
      by_cases hv : List.getD s1 i 0 = List.getD s2 i 0
      · rw [hv, if_neg (by simp)]
        exact ⟨inI_succ hi (by omega), ih (take_eq_next 0 hi hl ha hv)⟩
      · rw [if_pos (by rw [bne_iff_ne]; exact hv)]
        exact ⟨by simp [ne_at 0 hv], trivial⟩
  · rw [if_pos (by simp; omega)]
    exact ⟨by simp; exact fun e => hl (by rw [e]), trivial⟩
def ordT (t : Ste) (l : List Int) : Int := if validT t = 0 then argErr (decide (sortL l = nums t.length)) else validT t
theorem ordT_ok {t : Ste} {l : List Int} (h : ordT t l = 0) : okT t ∧ inT t l ∧ l.length = t.length ∧ l.Perm (nums t.length) := by
  unfold ordT at h
  split at h
  · rename_i h0
    rw [argErr_zero, decide_eq_true_eq] at h
    have hp : l.Perm (nums t.length) := h ▸ (sortL_perm l).symm
    exact ⟨validT_ok.1 h0, fun r hr => nums_mem.1 (hp.mem_iff.1 hr), by rw [hp.length_eq, nums_len], hp⟩
  · rename_i h0; exact absurd h h0
abbrev cOrdered : Con := { A := (.cons (.sl (.sl .int)) (.cons (.sl .int) .nil)), R := (.cons .int .nil), pre := fun x => x.2.1.length ≤ 1000000, F := fun x => (ordT x.1 x.2.1, ()) }
def cOrdered_0  (t : (List (List Int))) (order : (List Int)) (y0 : Int) : Prop :=
  True ∧ (if ((validT t) != (0 : Int)) = true then ((validT t) = y0 ∧ True) else (True ∧ ((((True, order.map fun v' => (v', ()))).1 ∧ ((True, order.map fun v' => (v', ()))).2.length ≤ 1000000) ∧ ((0 ≤ (List.length t : Int) ∧ (List.length t : Int) ≤ 4294967296) ∧ ((sortL (((True, order.map fun v' => (v', ()))).2.map fun v' => v'.1)).length ≤ 1000000 ∧ (if (!(decide ((sortL (((True, order.map fun v' => (v', ()))).2.map fun v' => v'.1)) = (nums (List.length t : Int).toNat)))) = true then ((1 : Int) = y0 ∧ True) else ((0 : Int) = y0 ∧ True)))))))
theorem cOrdered_law (h : ∀ (t : (List (List Int))) (order : (List Int)), cOrdered.A.wf (t, order, ()) → (order.length ≤ 1000000) → cOrdered_0  t order (ordT t order)) : ConOK Go.Proofs.Try.prog 93 cOrdered := by
  refine lawL (Γ := [(67, cAll8), (111, cEqualI), (112, cSortedI), (35, cVal8), (113, cVals)]) (Θ := Th) (n := 19) [] ⟨cAll8_ok, cEqualI_ok, cSortedI_ok, cVal8_ok, cVals_ok, trivial⟩ (by kernel_rfl) th_ok mix_ok Go.Proofs.Try.func93 (by kernel_rfl) ?_
  intro x hw hp Λ hC
  have h0 := h x.1 x.2.1 hw hp  
  exact Eq.mpr (by kernel_rfl) h0
theorem cOrdered_ok : ConOK Go.Proofs.Try.prog 93 cOrdered := by
  refine cOrdered_law ?_
  intro t order hw hp
  unfold cOrdered_0
  refine ⟨trivial, ?_⟩
  by_cases h0 : validT t = 0
  · rw [if_neg (by simp [h0])]
    have ht := validT_ok.1 h0
    have := ht.1
    have e : sortL (((True, order.map fun v' => (v', ())) : Prop × List (Int × Unit)).2.map fun v' => v'.1) = sortL order := by rw [map_tup]
    refine ⟨trivial, ⟨trivial, by simpa using hp⟩, ⟨by omega, by omega⟩, ?_, ?_⟩
    · rw [e, sortL_len]; exact hp
    · rw [e, Int.toNat_natCast]
      have hr : ordT t order = argErr (decide (sortL order = nums t.length)) := by unfold ordT; rw [if_pos h0]
      rw [hr]
      cases hd : decide (sortL order = nums t.length)
      · rw [if_pos (by rfl)]; exact ⟨rfl, trivial⟩
      · rw [if_neg (by simp)]; exact ⟨rfl, trivial⟩
  · rw [if_pos (by simp [h0])]
    refine ⟨?_, trivial⟩
    unfold ordT; rw [if_neg h0]
abbrev cWaitS : Con := { A := (.cons (.sl (.sl .int)) (.cons (.sl .int) .nil)), R := (.cons .int (.cons .int .nil)), pre := fun x => x.2.1.length ≤ 1000000, F := fun x => ((if ordT x.1 x.2.1 = 0 then waitL x.1 x.2.1 else 0), ordT x.1 x.2.1, ()) }
def cWaitS_0  (t : (List (List Int))) (order : (List Int)) (y0 : Int) (y1 : Int) : Prop :=
  order.length ≤ 1000000 ∧ (if ((ordT t order) != (0 : Int)) = true then ((0 : Int) = y0 ∧ (ordT t order) = y1 ∧ True) else ((okT t ∧ inT t order ∧ order.length ≤ 100) ∧ ((waitL t order) = y0 ∧ (0 : Int) = y1 ∧ True)))
theorem cWaitS_law (h : ∀ (t : (List (List Int))) (order : (List Int)), cWaitS.A.wf (t, order, ()) → (order.length ≤ 1000000) → cWaitS_0  t order (if ordT t order = 0 then waitL t order else 0) (ordT t order)) : ConOK Go.Proofs.Try.prog 45 cWaitS := by
  refine lawL (Γ := [(93, cOrdered), (88, cWait)]) (Θ := Th) (n := 16) [] ⟨cOrdered_ok, cWait_ok, trivial⟩ (by kernel_rfl) th_ok mix_ok Go.Proofs.Try.func45 (by kernel_rfl) ?_
  intro x hw hp Λ hC
  have h0 := h x.1 x.2.1 hw hp  
  exact Eq.mpr (by kernel_rfl) h0
theorem cWaitS_ok : ConOK Go.Proofs.Try.prog 45 cWaitS := by
  refine cWaitS_law ?_
  intro t order hw hp
  unfold cWaitS_0
  refine ⟨hp, ?_⟩
  by_cases h : ordT t order = 0
  · rw [if_neg (by simp [h]), if_pos h, h]
    obtain ⟨h1, h2, h3, _⟩ := ordT_ok h
    have := h1.1
    exact ⟨⟨h1, h2, by omega⟩, rfl, rfl, trivial⟩
  · rw [if_pos (by simp [h]), if_neg h]
    exact ⟨rfl, rfl, trivial⟩
end Go.Tk
/- suite.Cover: a search that panics with what it has found, and a deferred call that recovers. -/
set_option linter.unusedSimpArgs false
set_option linter.unusedVariables false
set_option linter.unnecessarySimpa false
set_option maxRecDepth 10000
namespace Go.Tk
open Go Go.RowKit

theorem cover_idle (p q : Addr) (w : World) :
    CallsD Go.Proofs.Try.prog 76 #[.pointer (some p), .pointer (some q)] .returning w fun e u' w' => e = .returned (.tuple #[]) ∧ u' = .returning ∧ w' = w := by
  refine callsD_of_wpS Go.Proofs.Try.func76 rfl fun c₀ cs hu => ?_
  apply wpS_seq
  apply wpS_region
  simp [wpOpsS, go_sem, recoverD, hu, Go.Proofs.Try.ntmps76, Exit.thenS]
  apply wpS_seq
  apply wpS_region
  simp [wpOpsS, go_sem, Exit.thenS]
  refine wpS_cond (t := false) (by simp [Act.eval, Array.replicate]) ?_
  simp
  refine wpS_of_wp ?_
  go_wp2
  cases c₀
  simp_all [bodyPostS, results, Go.Proofs.Try.results76, Exit.thenS]

theorem run_assert (sv : Value) (w : World) : (Instr.typeAssert (Value.iface 62 (Value.agg #[sv])) 20 62 true).run Go.Proofs.Try.prog w = .ok (.tuple #[.agg #[sv], .bool true]) w := by
  kernel_rfl

theorem heap_setCell_row {W : World} {B : Nat} {v : Value} {t : TypeId} (v' : Value) (h : W.heap[B]? = some (.cells #[v] t (0, 0))) : (W.setCell ⟨B, 0, none⟩ v').heap[B]? = some (.cells #[v'] t (0, 0)) := by
  have := heap_setCell_same W B 0 #[v] t v' h
  simpa using this

theorem cover_catch (b2 b3 : Nat) (sv v2 v3 : Value) (w : World) (h2 : w.heap[b2]? = some (.cells #[v2] 25 (0, 0))) (h3 : w.heap[b3]? = some (.cells #[v3] 26 (0, 0))) (hne : b2 ≠ b3) (hs : ∃ ao n c, sv = .slice ao n c) :
    CallsD Go.Proofs.Try.prog 76 #[.pointer (some ⟨b2, 0, none⟩), .pointer (some ⟨b3, 0, none⟩)] (.panicking [{ v := .iface 62 (.agg #[sv]), recovered := false }]) w fun e u' w' => e = .returned (.tuple #[]) ∧ u' = .panicking [{ v := .iface 62 (.agg #[sv]), recovered := true }] ∧
      w' = ((w.alloc (.cells #[sv] 62)).setCell ⟨b2, 0, none⟩ sv).setCell ⟨b3, 0, none⟩ (.int .i64 0) := by
  obtain ⟨ao, n, c, rfl⟩ := hs
  have ha := run_assert (Value.slice ao n c)
  have hl2 : b2 < w.heap.size := (Array.getElem?_eq_some_iff.1 h2).1
  have hl3 : b3 < w.heap.size := (Array.getElem?_eq_some_iff.1 h3).1
  obtain ⟨W, hW⟩ : ∃ W, w.alloc (.cells #[Value.slice ao n c] 62) = W := ⟨_, rfl⟩
  have k1 : W.heap[w.heap.size]? = some (.cells #[Value.slice ao n c] 62 (0, 0)) := by rw [← hW]; exact heap_alloc_new w _
  have k2 : W.heap[b2]? = some (.cells #[v2] 25 (0, 0)) := by rw [← hW]; exact (Below.heap_alloc _ _ b2 hl2).trans h2
  have k3 : W.heap[b3]? = some (.cells #[v3] 26 (0, 0)) := by rw [← hW]; exact (Below.heap_alloc _ _ b3 hl3).trans h3
  have e1 : (w.alloc (.cells #[Value.slice none 0 0] 62)).setCell ⟨w.heap.size, 0, none⟩ (Value.slice ao n c) = W := by
    rw [← hW, World.setCell_alloc_new]
    simp
  have c1 : W.cell? ⟨w.heap.size, 0, none⟩ = some (Value.slice ao n c) := by simp [World.cell?, k1]
  have c2 : W.cell? ⟨b2, 0, none⟩ = some v2 := by simp [World.cell?, k2]
  have f2 : W.frozen? ⟨b2, 0, none⟩ = false := by simp [World.frozen?, k2]
  have k4 : (W.setCell ⟨b2, 0, none⟩ (Value.slice ao n c)).heap[b3]? = some (.cells #[v3] 26 (0, 0)) := (Below.heap_setCell W _ _ b3 (Ne.symm hne)).trans k3
  have c3 : (W.setCell ⟨b2, 0, none⟩ (Value.slice ao n c)).cell? ⟨b3, 0, none⟩ = some v3 := by simp [World.cell?, k4]
  have f3 : (W.setCell ⟨b2, 0, none⟩ (Value.slice ao n c)).frozen? ⟨b3, 0, none⟩ = false := by simp [World.frozen?, k4]
  rw [hW]
  clear hW k1 k2 k3 k4 h2 h3 hl2 hl3
  refine callsD_of_wpS Go.Proofs.Try.func76 rfl fun c₀ cs hu => ?_
  apply wpS_seq
  apply wpS_region
  simp [wpOpsS, go_sem, recoverD, hu, Go.Proofs.Try.ntmps76, Exit.thenS]
  apply wpS_seq
  apply wpS_region
  simp [wpOpsS, go_sem, Exit.thenS]
  refine wpS_cond (t := true) (by simp [Act.eval, Array.replicate]) ?_
  simp only [if_true]
  apply wpS_seq
  apply wpS_region
  simp [wpOpsS, go_sem, Exit.thenS, ha, e1]
  apply wpS_seq
  apply wpS_seq
  apply wpS_region
  simp [wpOpsS, go_sem, Exit.thenS]
  refine wpS_cond (t := false) (by simp [Act.eval]) ?_
  simp only [if_false, Bool.false_eq_true]
  refine wpS_of_wp (wp_skip ?_)
  simp only [Exit.thenS]
  apply wpS_region
  simp [wpOpsS, go_sem, Exit.thenS, c1, c2, f2, c3, f3]
  cases c₀
  simp_all [bodyPostS, results, Go.Proofs.Try.results76]

/-! ### Regions, one operation after another -/
def wl (P : Program) : List Oper → (Act → World → Prop) → (Exit → Act → World → Prop) → Act → World → Prop
  | [], K, _, a, w => K a w
  | o :: l, K, Q, a, w => o.upon P a (fun a' w' => wl P l K Q a' w') Q ((execOp a.eval o).run P w)

theorem upon_mono {P : Program} {o : Oper} {a : Act} {K K' : Act → World → Prop} {Q : Exit → Act → World → Prop} {r : Result Next} (h : ∀ a w, K a w → K' a w) (hr : o.upon P a K Q r) : o.upon P a K' Q r := by
  cases r with
  | halt x w => cases x <;> exact hr
  | ok x w =>
    cases x <;> simp only [Oper.upon] at hr ⊢
    case value v => exact h _ _ hr
    case skip => exact h _ _ hr
    case defer d => exact h _ _ hr
    case enter f args =>
      refine hr.mono ?_
      intro e w' he
      cases e with
      | returned v => exact h _ _ he
      | panicked c => exact he
      | outgrown => exact he
    case row row args =>
      intro c cs
      obtain ⟨v, w', hv, hs⟩ := hr c cs
      exact ⟨v, w', h _ _ hv, hs⟩

theorem wl_ops {P : Program} {ops : List Oper} {Q : Exit → Act → World → Prop} : ∀ (l : List Oper) (k : Nat) (a : Act) (w : World), (∀ j, l[j]? = ops[k + j]?) → (∀ o ∈ l, o.guard = none) → wl P l (Q .normal) Q a w →
    wpOpsIn (Fw none) 0 P ops.toArray Q (List.range' k l.length) a w
  | [], k, a, w, _, _, h => by
    have h : Q .normal a w := h
    simpa [wpOpsIn] using h
  | o :: l, k, a, w, hl, hg, h => by
    rw [List.length_cons, List.range'_succ, wpOpsIn_cons]
    have ho : ops[k]? = some o := by simpa using (hl 0).symm
    have hl' : ∀ j, l[j]? = ops[k + 1 + j]? := fun j => by have := hl (j + 1); simpa [Nat.add_assoc, Nat.add_comm 1 j] using this
    have hw : Region.wanted o (yielded ops.toArray a.tmps) = true := by unfold Region.wanted; rw [hg o (by simp)]
    unfold wpOpIn
    rw [show ops.toArray[k]? = some o by simpa using ho]
    simp only [hw, if_true]
    refine ⟨fun _ _ => trivial, ?_⟩
    show Oper.uponIn (Fw none) 0 P o a _ Q ((o.semAt none a.eval).run P w)
    rw [Oper.semAt_none]
    exact upon_in (upon_mono (fun a' w' h' => wl_ops l (k + 1) a' w' hl' (fun q hq => hg q (by simp [hq])) h') h)

theorem wl_region {P : Program} {ops : Array Oper} {id : Nat} {Q : Exit → Act → World → Prop} {a : Act} {w : World} (hg : (ops.toList.all fun o => o.guard.isNone) = true) (h : wl P ops.toList (Q .normal) Q a w) : (Code.region id ops false).wpIn (Fw none) 0 P Q a w := by
  refine wpIn_region ?_
  have := wl_ops (P := P) (ops := ops.toList) (Q := Q) ops.toList 0 a w (by simp) (fun o ho => by simpa using List.all_eq_true.1 hg o ho) h
  simpa [List.range_eq_range'] using this

def coverF (t : Ste) (k : Nat) : Option (List Int × Unit) := (List.range k).findSome? fun m => srch t m [] 0
def coverS (t : Ste) : List Int := match coverF t (t.length + 1) with
  | some y => y.1
  | none => []
theorem coverF_succ (t : Ste) (k : Nat) : coverF t (k + 1) = match coverF t k with | some y => some y | none => srch t k [] 0 := by
  unfold coverF
  rw [List.range_succ, List.findSome?_append]
  cases (List.range k).findSome? fun m => srch t m [] 0 <;> simp
theorem coverF_le {t : Ste} {k n : Nat} {y : List Int × Unit} (h : coverF t k = some y) (hk : k ≤ n) : coverF t n = some y := by
  induction n with
  | zero =>
    have e : k = 0 := by omega
    rw [e] at h; exact h
  | succ n ih =>
    by_cases e : k = n + 1
    · rw [← e]; exact h
    · rw [coverF_succ, ih (by omega)]

theorem loop_up {F : Fence} {P : Program} {c : Code} {Q : Exit → Act → World → Prop} {n : Nat} (A : Nat → Act → World → Prop) (last : ∀ a W, A n a W → c.wpIn F 0 P (Exit.then (fun _ _ => False) Q) a W)
    (step : ∀ m a W, m < n → A m a W → c.wpIn F 0 P (Exit.then (A (m + 1)) Q) a W) : ∀ m, m ≤ n → ∀ a W, A m a W → LoopAt F P c Q a W := by
  refine upto ?_ ?_
  · intro a W h
    refine loopAt_round (wpIn_mono (last a W h) fun e a' W' he => ?_)
    cases e <;> first | exact he.elim | exact he
  · intro m hm ih a W h
    refine loopAt_round (wpIn_mono (step m a W hm h) fun e a' W' he => ?_)
    cases e <;> first | exact ih _ _ he | exact he

theorem validT_in (t : Ste) : inI (validT t) := by
  unfold inI validT argErr
  split
  · omega
  · cases t.all (rowOk t) <;> simp

abbrev tSte : T := .sl (.sl .int)
theorem cover_post {P : Program} {w W : World} {t : Ste} {l : List Int} {v : Value} (hb : Below w.heap.size w W) (hl : (if validT t = 0 then coverS t else []) = l) (h : (reps P (.sl .int)).c W (fun b => w.heap.size ≤ b) l [v]) :
    ∃ rs, Ending.returned (.tuple #[v, .int .i64 (validT t)]) = .returned (mkRes rs) ∧ ∃ x, (reps P (T.int.sl.cons (T.int.cons T.nil))).v W (fun b => w.heap.size ≤ b ∧ ¬b ∈ x) (if validT t = 0 then coverS t else [], validT t, ()) rs x ∧ x.Nodup ∧ (∀ b ∈ x, w.heap.size ≤ b) ∧ Below w.heap.size w W := by
  rw [hl]
  exact ⟨[v, .int .i64 (validT t)], rfl, [], ⟨_, _, [], [], rfl, rfl, ⟨rfl, [v], rfl, c_mono (.sl .int) h fun b _ hb => ⟨hb, by simp⟩⟩, _, _, [], [], rfl, rfl, ⟨rfl, [.int .i64 (validT t)], rfl, rfl, validT_in t⟩, rfl, rfl⟩, by simp, by simp, hb⟩
theorem nil_rep {P : Program} {W : World} {S : Nat → Prop} : (reps P (.sl .int)).c W S ([] : List Int) [.slice none 0 0] := ⟨_, rfl, none, 0, rfl, Nat.le_refl _, Nat.zero_le _, .inl rfl⟩
theorem cell_row0 {W : World} {b : Nat} {v : Value} {e : TypeId} (h : W.heap[b]? = some (.cells #[v] e (0, 0))) : W.cell? ⟨b, 0, none⟩ = some v ∧ W.frozen? ⟨b, 0, none⟩ = false := by
  constructor
  · simp [World.cell?, h]
  · simp [World.frozen?, h]
theorem val_call {w : World} {S : Nat → Prop} {t : Ste} {v : Value} (h : (reps Go.Proofs.Try.prog tSte).c w S t [v]) :
    Calls Go.Proofs.Try.prog 35 #[v] w fun e w' => e = .returned (.int .i64 (validT t)) ∧ Below w.heap.size w w' := by
  refine ((cVal8_ok.1 rfl) w S (t, ()) [v] ⟨v, [], [], [], rfl, rfl, ⟨rfl, [v], rfl, h⟩, rfl, rfl⟩ trivial).mono ?_
  rintro e w' ⟨rs, bs, rfl, ⟨u, us, _, _, rfl, _, ⟨_, cs, rfl, rfl, _⟩, rfl, _⟩, _, _, hb⟩
  exact ⟨rfl, hb⟩

theorem search_call {w : World} {n0 : Nat} {S : Nat → Prop} {t : Ste} {v : Value} {m : Nat} (hn : n0 ≤ w.heap.size) (h : (reps Go.Proofs.Try.prog tSte).c w S t [v]) (ht : okT t) (hm : m ≤ t.length) :
    Calls Go.Proofs.Try.prog 77 #[v, .slice none 0 0, .int .i64 0, .int .i64 m] w fun e w' => Below w.heap.size w w' ∧ ((srch t m [] 0 = none ∧ ∃ u, e = .returned u) ∨
      ∃ y sv, srch t m [] 0 = some y ∧ e = .panicked [{ v := .iface 62 (.agg #[sv]), recovered := false }] ∧ (reps Go.Proofs.Try.prog (.sl .int)).c w' (fun b => n0 ≤ b) y.1 [sv]) := by
  have h8 := ht.1
  have hi0 : inI 0 := by unfold inI; omega
  have him : inI (m : Int) := by unfold inI; omega
  have h1 : (reps Go.Proofs.Try.prog (.cons tSte .nil)).v w (fun b => n0 ≤ b ∨ S b) (t, ()) [v] [] := ⟨v, [], [], [], rfl, rfl, ⟨rfl, [v], rfl, c_mono tSte h fun b _ hb => .inr hb⟩, rfl, rfl⟩
  have h2 : (reps Go.Proofs.Try.prog (.cons (.sl .int) (.cons .int (.cons .int .nil)))).v w (fun b => n0 ≤ b) (([] : List Int), (0 : Int), (m : Int), ()) [.slice none 0 0, .int .i64 0, .int .i64 m] [] :=
    ⟨_, _, [], [], rfl, rfl, ⟨rfl, [.slice none 0 0], rfl, _, rfl, none, 0, rfl, Nat.le_refl _, Nat.zero_le _, .inl rfl⟩, _, _, [], [], rfl, rfl, ⟨rfl, [.int .i64 0], rfl, rfl, hi0⟩, _, _, [], [], rfl, rfl, ⟨rfl, [.int .i64 m], rfl, rfl, him⟩, rfl, rfl⟩
  refine ((cSearch_ok (m + 1)).2 w n0 S (t, ()) (([] : List Int), (0 : Int), (m : Int), ()) [v] [.slice none 0 0, .int .i64 0, .int .i64 m] hn h1 h2 ?_).mono ?_
  · show ((m : Int)).toNat < m + 1 ∧ okT t ∧ inT t [] ∧ (0 : Int) ≤ 0 ∧ (0 : Int) ≤ t.length ∧ (0 : Int) ≤ m ∧ (m : Int) ≤ 90 ∧ 0 + ((m : Int)).toNat ≤ 100
    refine ⟨by omega, ht, fun r hr => by simp at hr, by omega, by omega, by omega, by omega, by omega⟩
  · rintro e w' ⟨hb, hres⟩
    refine ⟨hb, ?_⟩
    have e0 : (cSearch (m + 1)).F (t, ()) (([] : List Int), (0 : Int), (m : Int), ()) = srch t m [] 0 := by
      show srch t ((m : Int)).toNat [] ((0 : Int)).toNat = _
      rw [Int.toNat_natCast]; rfl
    rcases hres with ⟨e1, u, rfl⟩ | ⟨y, cs, e1, rfl, hc⟩
    · exact .inl ⟨by rw [← e0]; exact e1, u, rfl⟩
    · obtain ⟨c1, c2, rfl, hc1, rfl⟩ := hc
      obtain ⟨sv, rfl, hsv⟩ := hc1
      exact .inr ⟨y, sv, by rw [← e0]; exact e1, rfl, sv, rfl, hsv⟩

abbrev cCover : Con := { A := (.cons (.sl (.sl .int)) .nil), R := (.cons (.sl .int) (.cons .int .nil)), pre := fun x => True, F := fun x => ((if validT x.1 = 0 then coverS x.1 else []), validT x.1, ()) }
theorem cCover_ok : ConOK Go.Proofs.Try.prog 27 cCover := by
  refine ConOK.f ?_ rfl
  rintro w S ⟨t, ⟨⟩⟩ vs hv _
  change Ste at t
  obtain ⟨v, vs', b1, b2, rfl, e2, h1, h2⟩ := hv
  obtain ⟨rfl, _⟩ : vs' = [] ∧ _ := h2
  obtain ⟨_, cs, rfl, hc⟩ := h1
  obtain ⟨sv, rfl, hsv⟩ : ∃ sv, cs = [sv] ∧ _ := hc
  have hc : (reps Go.Proofs.Try.prog tSte).c w S t [sv] := ⟨sv, rfl, hsv⟩
  have hlen : ∃ ao c, sv = .slice ao t.length c ∧ t.length ≤ 140737488355328 := by
    obtain ⟨ao, c, e, _, h, _⟩ := hsv
    exact ⟨ao, c, e, h⟩
  clear hsv
  have hkc : ∀ {w' : World}, Below w.heap.size w w' → (reps Go.Proofs.Try.prog tSte).c w' S t [sv] := fun hb => c_keep tSte hc ⟨hb.size, fun b hb' _ => hb.block b hb'.lt⟩ fun b _ h => h
  have hmf : ∀ (fn : Fn) (first cap : Array Value) (w : World), (Instr.makeFunc fn first cap).run Go.Proofs.Try.prog w = .ok (.func fn first cap) w := fun _ _ _ _ => rfl
  show Calls _ _ #[sv] w _
  obtain ⟨w2, hw2⟩ : ∃ w2, (w.alloc (.cells #[.slice none 0 0] 25)).alloc (.cells #[.int .i64 0] 26) = w2 := ⟨_, rfl⟩
  have hb2 : Below w.heap.size w w2 := by rw [← hw2]; exact ((Below.refl _ w).alloc (Nat.le_refl _) _).alloc (by simp) _
  have hs2 : w2.heap.size = w.heap.size + 2 := by rw [← hw2]; simp
  have k2 : w2.heap[w.heap.size]? = some (.cells #[.slice none 0 0] 25 (0, 0)) := by
    rw [← hw2]; exact (Below.heap_alloc _ _ _ (by simp)).trans (heap_alloc_new w _)
  have k3 : w2.heap[w.heap.size + 1]? = some (.cells #[.int .i64 0] 26 (0, 0)) := by
    rw [← hw2]
    have := heap_alloc_new (w.alloc (.cells #[.slice none 0 0] 25)) (.cells #[.int .i64 0] 26)
    simpa using this
  have hval := val_call (hkc hb2)
  go_enter_defers Go.Proofs.Try.func27, Go.Proofs.Try.ntmps27
  refine (wpIn_wide (n := 0)).1 ?_
  show Code.wpIn (Fw none) 0 _ _ _ _ _
  refine wpIn_seq (wl_region rfl ?_)
  simp [wl, go_sem, Exit.then, hw2]
  refine wpIn_seq (wpIn_seq (wl_region rfl ?_))
  simp [wl, go_sem]
  refine hval.mono ?_
  rintro e w3 ⟨rfl, hb3⟩
  simp [wl, go_sem, Exit.then]
  refine wpIn_seq (wl_region rfl ?_)
  simp [wl, go_sem, Exit.then]
  have k2' : w3.heap[w.heap.size]? = some (.cells #[.slice none 0 0] 25 (0, 0)) := (hb3.block _ (by omega)).trans k2
  have k3' : w3.heap[w.heap.size + 1]? = some (.cells #[.int .i64 0] 26 (0, 0)) := (hb3.block _ (by omega)).trans k3
  have hb03 : Below w.heap.size w w3 := hb2.trans (hb3.mono hb2.size)
  obtain ⟨ao, cp, rfl, hlt⟩ := hlen
  by_cases h0 : validT t = 0
  · refine wpIn_cond_false (by simp [Act.eval, h0]) (wpIn_skip ?_)
    simp [Exit.then]
    refine wpIn_seq (wl_region rfl ?_)
    simp [wl, go_sem, Exit.then, hmf]
    refine wpIn_seq (wpIn_seq (wl_region rfl ?_))
    simp [wl, go_sem, Exit.then]
    have ht := validT_ok.1 h0
    have h8 := ht.1
    have hwrap : IntKind.i64.wrap ((t.length : Int) + 1) = (t.length : Int) + 1 := wrap_in (by unfold inI; omega)
    rw [hwrap]
    refine wpIn_block (wp_loopAt ?_)
    refine loop_up (n := t.length + 1) (fun m a W => ∃ x5 x16 x17 x18 x19 x20 x21 : Value, a = ⟨#[.slice ao t.length cp, undef, .pointer (some ⟨w.heap.size, 0, none⟩), .pointer (some ⟨w.heap.size + 1, 0, none⟩), .int .i64 (validT t), x5, .slice ao t.length cp, .int .i64 (validT t), .int .i64 (validT t), .bool (validT t != 0), undef,
      .func (.func 76) #[] #[.pointer (some ⟨w.heap.size, 0, none⟩), .pointer (some ⟨w.heap.size + 1, 0, none⟩)], .slice ao t.length cp, .int .i64 t.length, .int .i64 ((t.length : Int) + 1), .int .i64 m, x16, x17, x18, x19, x20, x21], [{ target := .fn (.func 76) #[.pointer (some ⟨w.heap.size, 0, none⟩), .pointer (some ⟨w.heap.size + 1, 0, none⟩)], args := #[] }]⟩ ∧
      Below w2.heap.size w2 W ∧ coverF t m = none) ?_ ?_ 0 (by omega) _ _ ⟨_, _, _, _, _, _, _, rfl, hb3, rfl⟩
    · rintro a W ⟨x5, x16, x17, x18, x19, x20, x21, rfl, hbW, hnone⟩
      refine wpIn_seq (wl_region rfl ?_)
      simp [wl, go_sem, Exit.then]
      refine wpIn_seq (wpIn_cond_false (by simp [Act.eval]) (wpIn_exit ?_))
      simp only [Exit.then, Exit.inBlock, if_true]
      have q2 : W.heap[w.heap.size]? = some (.cells #[.slice none 0 0] 25 (0, 0)) := (hbW.block _ (by omega)).trans k2
      have q3 : W.heap[w.heap.size + 1]? = some (.cells #[.int .i64 0] 26 (0, 0)) := (hbW.block _ (by omega)).trans k3
      obtain ⟨c2, f2⟩ := cell_row0 q2
      have k4 : (W.setCell ⟨w.heap.size, 0, none⟩ (.slice none 0 0)).heap[w.heap.size + 1]? = some (.cells #[.int .i64 0] 26 (0, 0)) := (Below.heap_setCell W _ _ _ (by simp)).trans q3
      obtain ⟨c3, f3⟩ := cell_row0 k4
      have k5 := heap_setCell_row (.int .i64 0) k4
      have k6 : ((W.setCell ⟨w.heap.size, 0, none⟩ (.slice none 0 0)).setCell ⟨w.heap.size + 1, 0, none⟩ (.int .i64 0)).heap[w.heap.size]? = some (.cells #[.slice none 0 0] 25 (0, 0)) := (Below.heap_setCell _ _ _ _ (by simp)).trans (heap_setCell_row (.slice none 0 0) q2)
      obtain ⟨c5, f5⟩ := cell_row0 k5
      obtain ⟨c6, f6⟩ := cell_row0 k6
      refine wpIn_seq (wl_region rfl ?_)
      simp [wl, go_sem, Exit.then, c2, f2, c3, f3]
      refine wpIn_ret ?_
      refine leaves_cons (f := 76) (args := #[.pointer (some ⟨w.heap.size, 0, none⟩), .pointer (some ⟨w.heap.size + 1, 0, none⟩)]) (by simp) (by simp [go_sem]) ?_
      refine (cover_idle ⟨w.heap.size, 0, none⟩ ⟨w.heap.size + 1, 0, none⟩ _).mono ?_
      rintro e u' w'' ⟨rfl, rfl, rfl⟩
      have hcv : coverS t = [] := by unfold coverS; rw [hnone]
      refine ⟨.tuple #[.slice none 0 0, .int .i64 (validT t)], ?_, cover_post ?_ (by rw [if_pos h0, hcv]) nil_rep⟩
      · rw [h0]
        simp [results, Go.Proofs.Try.results27, go_sem, c5, c6]
      · exact ((hb2.trans (hbW.mono hb2.size)).setCell (Nat.le_refl _) _).setCell (by simp) _
    · rintro m a W hm ⟨x5, x16, x17, x18, x19, x20, x21, rfl, hbW, hnone⟩
      refine wpIn_seq (wl_region rfl ?_)
      simp [wl, go_sem, Exit.then]
      refine wpIn_seq (wpIn_cond_true (by simp [Act.eval]; omega) (wpIn_skip ?_))
      simp only [Exit.then]
      refine wpIn_seq (wpIn_block (wpIn_seq (wl_region rfl ?_)))
      simp [wl, go_sem, Exit.then]
      refine wl_region rfl ?_
      simp [wl, go_sem, Exit.then, Exit.inBlock]
      have hbw : Below w.heap.size w W := hb2.trans (hbW.mono hb2.size)
      refine (search_call (n0 := w2.heap.size) hbW.size (hkc hbw) ht (m := m) (by omega)).mono ?_
      rintro e W' ⟨hbW', ⟨e1, u, rfl⟩ | ⟨y, sv, e1, rfl, hsv⟩⟩
      · simp [wl, go_sem, Exit.then, Exit.inBlock]
        refine wl_region rfl ?_
        simp [wl, go_sem, Exit.then]
        exact ⟨wrap_in (by unfold inI; omega), hbW.trans (hbW'.mono hbW.size), by rw [coverF_succ, hnone]; exact e1⟩
      · simp only [Exit.then, Exit.inBlock]
        have q2 : W'.heap[w.heap.size]? = some (.cells #[.slice none 0 0] 25 (0, 0)) := (hbW'.block _ (by have := hbW.size; omega)).trans ((hbW.block _ (by omega)).trans k2)
        have q3 : W'.heap[w.heap.size + 1]? = some (.cells #[.int .i64 0] 26 (0, 0)) := (hbW'.block _ (by have := hbW.size; omega)).trans ((hbW.block _ (by omega)).trans k3)
        have hsl : ∃ ao n c, sv = .slice ao n c := by
          obtain ⟨u, e, ao, c, e', _⟩ := hsv
          cases e
          exact ⟨ao, _, c, e'⟩
        refine leaves_cons (f := 76) (args := #[.pointer (some ⟨w.heap.size, 0, none⟩), .pointer (some ⟨w.heap.size + 1, 0, none⟩)]) (by simp) (by simp [go_sem]) ?_
        refine (cover_catch w.heap.size (w.heap.size + 1) sv _ _ _ q2 q3 (by omega) hsl).mono ?_
        rintro e u' w'' ⟨rfl, rfl, rfl⟩
        have l2 : w.heap.size < W'.heap.size := (Array.getElem?_eq_some_iff.1 q2).1
        have l3 : w.heap.size + 1 < W'.heap.size := (Array.getElem?_eq_some_iff.1 q3).1
        have r2 : (W'.alloc (.cells #[sv] 62)).heap[w.heap.size]? = some (.cells #[.slice none 0 0] 25 (0, 0)) := (Below.heap_alloc _ _ _ l2).trans q2
        have r3 : (W'.alloc (.cells #[sv] 62)).heap[w.heap.size + 1]? = some (.cells #[.int .i64 0] 26 (0, 0)) := (Below.heap_alloc _ _ _ l3).trans q3
        have s3 : ((W'.alloc (.cells #[sv] 62)).setCell ⟨w.heap.size, 0, none⟩ sv).heap[w.heap.size + 1]? = some (.cells #[.int .i64 0] 26 (0, 0)) := (Below.heap_setCell _ _ _ _ (by simp)).trans r3
        have k5 := heap_setCell_row (.int .i64 0) s3
        have k6 : (((W'.alloc (.cells #[sv] 62)).setCell ⟨w.heap.size, 0, none⟩ sv).setCell ⟨w.heap.size + 1, 0, none⟩ (.int .i64 0)).heap[w.heap.size]? = some (.cells #[sv] 25 (0, 0)) := (Below.heap_setCell _ _ _ _ (by simp)).trans (heap_setCell_row sv r2)
        obtain ⟨c5, f5⟩ := cell_row0 k5
        obtain ⟨c6, f6⟩ := cell_row0 k6
        have hcv : coverS t = y.1 := by
          unfold coverS
          rw [coverF_le (k := m + 1) (y := y) (by rw [coverF_succ, hnone]; exact e1) (by omega)]
        refine ⟨.tuple #[sv, .int .i64 (validT t)], ?_, cover_post (l := y.1) ?_ (by rw [if_pos h0, hcv]) ?_⟩
        · rw [h0]
          obtain ⟨ao', n', c', rfl⟩ := hsl
          simp [results, Go.Proofs.Try.results27, go_sem, c5, c6]
        · exact (((hbw.trans (hbW'.mono hbw.size)).alloc (by omega) _).setCell (Nat.le_refl _) _).setCell (by simp) _
        · refine c_mono (S' := fun b => w.heap.size ≤ b) (.sl .int) (c_keep (.sl .int) (S' := fun b => w2.heap.size ≤ b) hsv ⟨by simp [World.setCell], fun b hb hlt => ?_⟩ fun b _ h => h) fun b _ h => by omega
          refine (Below.heap_setCell _ _ _ _ (by simp; omega)).trans ((Below.heap_setCell _ _ _ _ (by simp; omega)).trans (Below.heap_alloc _ _ _ hb.lt))
  · have c2 : w3.cell? ⟨w.heap.size, 0, none⟩ = some (.slice none 0 0) := by simp [World.cell?, k2']
    have f2 : w3.frozen? ⟨w.heap.size, 0, none⟩ = false := by simp [World.frozen?, k2']
    have k4 : (w3.setCell ⟨w.heap.size, 0, none⟩ (.slice none 0 0)).heap[w.heap.size + 1]? = some (.cells #[.int .i64 0] 26 (0, 0)) := (Below.heap_setCell w3 _ _ _ (by simp)).trans k3'
    have c3 : (w3.setCell ⟨w.heap.size, 0, none⟩ (.slice none 0 0)).cell? ⟨w.heap.size + 1, 0, none⟩ = some (.int .i64 0) := by simp [World.cell?, k4]
    have f3 : (w3.setCell ⟨w.heap.size, 0, none⟩ (.slice none 0 0)).frozen? ⟨w.heap.size + 1, 0, none⟩ = false := by simp [World.frozen?, k4]
    refine wpIn_cond_true (by simp [Act.eval, h0]) ?_
    refine wpIn_seq (wl_region rfl ?_)
    simp [wl, go_sem, Exit.then, c2, f2, c3, f3]
    refine wpIn_ret ?_
    simp only [Exit.then]
    have k5 := heap_setCell_row (.int .i64 (validT t)) k4
    have k6 : ((w3.setCell ⟨w.heap.size, 0, none⟩ (.slice none 0 0)).setCell ⟨w.heap.size + 1, 0, none⟩ (.int .i64 (validT t))).heap[w.heap.size]? = some (.cells #[.slice none 0 0] 25 (0, 0)) := (Below.heap_setCell _ _ _ _ (by simp)).trans (heap_setCell_row (.slice none 0 0) k2')
    obtain ⟨c5, f5⟩ := cell_row0 k5
    obtain ⟨c6, f6⟩ := cell_row0 k6
    refine ⟨.tuple #[.slice none 0 0, .int .i64 (validT t)], ?_, cover_post ?_ (by rw [if_neg h0]) nil_rep⟩
    · simp [results, Go.Proofs.Try.results27, go_sem, c5, c6]
    · exact (hb03.setCell (Nat.le_refl _) _).setCell (by simp) _
end Go.Tk
set_option linter.unusedSimpArgs false
set_option linter.unusedVariables false
set_option linter.unnecessarySimpa false
namespace Go.Tk
open Go Go.RowKit
abbrev cSameI8 : Con := { A := (.cons (.sl .int) (.cons (.sl .int) .nil)), R := (.cons .bool .nil), pre := fun x => True, F := fun x => (decide (x.1 = x.2.1), ()) }
def cSameI8_0 (Λ1 : Int → Prop) (a : (List Int)) (b : (List Int)) (y0 : Bool) : Prop :=
  if ((List.length a : Int) != (List.length b : Int)) = true then (false = y0 ∧ True) else Λ1 (0 : Int)
def cSameI8_1 (Λ1 : Int → Prop) (a : (List Int)) (b : (List Int)) (y0 : Bool)  (i_1 : Int) : Prop :=
  if (decide (i_1 < (List.length a : Int))) = true then (idx i_1 (List.length a : Int) ∧ (idx i_1 (List.length b : Int) ∧ (if ((List.getD a (Int.toNat i_1) 0) != (List.getD b (Int.toNat i_1) 0)) = true then (false = y0 ∧ True) else (inI (i_1 + (1 : Int)) ∧ Λ1 (i_1 + (1 : Int)))))) else (true = y0 ∧ True)
theorem cSameI8_law (h : ∀ (a : (List Int)) (b : (List Int)), cSameI8.A.wf (a, b, ()) → ∀ (Λ1 : Int → Prop), (∀ (i_1 : Int), cSameI8_1 Λ1 a b (decide (a = b)) i_1 → Λ1 i_1) → cSameI8_0 Λ1 a b (decide (a = b))) : ConOK Go.Proofs.Try.prog 21 cSameI8 := by
  refine lawL (Γ := []) (Θ := Th) (n := 26) [([1, 1, 0, 1, 0], ⟨[(0, false), (1, false), (5, true)], []⟩)] trivial (by kernel_rfl) th_ok mix_ok Go.Proofs.Try.func21 (by kernel_rfl) ?_
  intro x hw hp Λ hC
  have h0 := h x.1 x.2.1 hw (fun i_1 => Λ [1, 1, 0, 1, 0] ([(0, .d false (.sl .int) x.1), (1, .d false (.sl .int) x.2.1), (5, .d true .int i_1)], [])) (fun i_1 hb => hC [1, 1, 0, 1, 0] ([(0, .d false (.sl .int) x.1), (1, .d false (.sl .int) x.2.1), (5, .d true .int i_1)], []) (Eq.mpr (by kernel_rfl) hb))
  exact Eq.mpr (by kernel_rfl) h0
theorem cSameI8_ok : ConOK Go.Proofs.Try.prog 21 cSameI8 := by
  refine cSameI8_law ?_
  intro a b hw Λ1 h1
  unfold cSameI8_0
  have hla : a.length ≤ 140737488355328 := hw.1.1
  by_cases hl : a.length = b.length
  · rw [if_neg (by simp [hl])]
    refine upto (n := a.length) (Q := fun i => a.take i = b.take i → Λ1 i) ?_ ?_ 0 (Nat.zero_le _) rfl
    · intro ha
      rw [List.take_length, List.take_of_length_le (by omega)] at ha
      apply h1; unfold cSameI8_1; rw [if_neg (by simp)]
      exact ⟨by simp [ha], trivial⟩
    · intro i hi ih ha
      apply h1; unfold cSameI8_1; rw [if_pos (by simpa using hi), Int.toNat_natCast]
      refine ⟨idx_nat hi, idx_nat (by omega), ?_⟩
      by_cases hv : List.getD a i 0 = List.getD b i 0
      · rw [hv, if_neg (by simp)]
        exact ⟨inI_succ hi hla, ih (take_eq_next 0 hi hl ha hv)⟩
      · rw [if_pos (by rw [bne_iff_ne]; exact hv)]
        exact ⟨by simp [ne_at 0 hv], trivial⟩
  · rw [if_pos (by simp; omega)]
    exact ⟨by simp; exact fun e => hl (by rw [e]), trivial⟩
def longT (t : Ste) : Bool := (t.any fun r => decide (r.length > 50)) || decide (t.length > 50)
theorem longT_no {t : Ste} (h : longT t = false) : t.length ≤ 50 ∧ ∀ r ∈ t, r.length ≤ 50 := by
  unfold longT at h
  rw [Bool.or_eq_false_iff, decide_eq_false_iff_not, List.any_eq_false] at h
  refine ⟨by omega, fun r hr => ?_⟩
  have := h.1 r hr
  simpa using this
abbrev cLong8 : Con := { A := (.cons (.sl (.sl .int)) .nil), R := (.cons .bool .nil), pre := fun x => True, F := fun x => (longT x.1, ()) }
def cLong8_0 (Λ1 : Int → Prop) (t : (List (List Int))) (y0 : Bool) : Prop :=
  Λ1 (0 : Int)
def cLong8_1 (Λ1 : Int → Prop) (t : (List (List Int))) (y0 : Bool)  (i_1 : Int) : Prop :=
  if (decide (i_1 < (List.length t : Int))) = true then (idx i_1 (List.length t : Int) ∧ (if (decide ((List.length (List.getD t (Int.toNat i_1) ([] : List Int)) : Int) > (50 : Int))) = true then (true = y0 ∧ True) else (inI (i_1 + (1 : Int)) ∧ Λ1 (i_1 + (1 : Int))))) else ((decide ((List.length t : Int) > (50 : Int))) = y0 ∧ True)
theorem cLong8_law (h : ∀ (t : (List (List Int))), cLong8.A.wf (t, ()) → ∀ (Λ1 : Int → Prop), (∀ (i_1 : Int), cLong8_1 Λ1 t (longT t) i_1 → Λ1 i_1) → cLong8_0 Λ1 t (longT t)) : ConOK Go.Proofs.Try.prog 17 cLong8 := by
  refine lawL (Γ := []) (Θ := Th) (n := 19) [([1, 0, 1, 0], ⟨[(0, false), (3, true)], []⟩)] trivial (by kernel_rfl) th_ok mix_ok Go.Proofs.Try.func17 (by kernel_rfl) ?_
  intro x hw hp Λ hC
  have h0 := h x.1 hw (fun i_1 => Λ [1, 0, 1, 0] ([(0, .d false (.sl (.sl .int)) x.1), (3, .d true .int i_1)], [])) (fun i_1 hb => hC [1, 0, 1, 0] ([(0, .d false (.sl (.sl .int)) x.1), (3, .d true .int i_1)], []) (Eq.mpr (by kernel_rfl) hb))
  exact Eq.mpr (by kernel_rfl) h0
theorem cLong8_ok : ConOK Go.Proofs.Try.prog 17 cLong8 := by
  refine cLong8_law ?_
  intro t hw Λ1 h1
  unfold cLong8_0
  have hl : t.length ≤ 140737488355328 := hw.1.1
  unfold longT at h1
  refine upto (n := t.length) (Q := fun i => (t.take i).any (fun r => decide (r.length > 50)) = false → Λ1 i) ?_ ?_ 0 (Nat.zero_le _) rfl
  · intro ha
    rw [List.take_length] at ha
    apply h1; unfold cLong8_1; rw [if_neg (by simp), ha]
    refine ⟨?_, trivial⟩
    rw [Bool.false_or, decide_eq_decide]; omega
  · intro i hi ih ha
    apply h1; unfold cLong8_1; rw [if_pos (by simpa using hi), Int.toNat_natCast]
    refine ⟨idx_nat hi, ?_⟩
    have hnx : decide ((t.getD i []).length > 50) = false → Λ1 ((i : Int) + 1) := fun hv => ih (any_take_next (p := fun r => decide (r.length > 50)) [] hi ha hv)
    have hyes : decide ((t.getD i []).length > 50) = true → (t.any fun r => decide (r.length > 50)) = true := fun hv => List.any_eq_true.2 ⟨_, mem_getD hi, hv⟩
    generalize t.getD i [] = r at hnx hyes ⊢
    by_cases hr : r.length > 50
    · rw [if_pos (by simp; omega), hyes (by simpa using hr)]
      exact ⟨rfl, trivial⟩
    · rw [if_neg (by simp; omega)]
      exact ⟨inI_succ hi hl, hnx (by simpa using hr)⟩
abbrev cHasL8 : Con := { A := (.cons (.sl .int) (.cons .int .nil)), R := (.cons .bool .nil), pre := fun x => True, F := fun x => (decide (x.2.1 ∈ x.1), ()) }
def cHasL8_0 (Λ1 : Int → Prop) (l : (List Int)) (n : Int) (y0 : Bool) : Prop :=
  Λ1 (0 : Int)
def cHasL8_1 (Λ1 : Int → Prop) (l : (List Int)) (n : Int) (y0 : Bool)  (i_1 : Int) : Prop :=
  if (decide (i_1 < (List.length l : Int))) = true then (idx i_1 (List.length l : Int) ∧ (if ((List.getD l (Int.toNat i_1) 0) == n) = true then (true = y0 ∧ True) else (inI (i_1 + (1 : Int)) ∧ Λ1 (i_1 + (1 : Int))))) else (false = y0 ∧ True)
theorem cHasL8_law (h : ∀ (l : (List Int)) (n : Int), cHasL8.A.wf (l, n, ()) → ∀ (Λ1 : Int → Prop), (∀ (i_1 : Int), cHasL8_1 Λ1 l n (decide (n ∈ l)) i_1 → Λ1 i_1) → cHasL8_0 Λ1 l n (decide (n ∈ l))) : ConOK Go.Proofs.Try.prog 26 cHasL8 := by
  refine lawL (Γ := []) (Θ := Th) (n := 18) [([1, 0, 1, 0], ⟨[(0, false), (1, false), (5, true)], []⟩)] trivial (by kernel_rfl) th_ok mix_ok Go.Proofs.Try.func26 (by kernel_rfl) ?_
  intro x hw hp Λ hC
  have h0 := h x.1 x.2.1 hw (fun i_1 => Λ [1, 0, 1, 0] ([(0, .d false (.sl .int) x.1), (1, .d false .int x.2.1), (5, .d true .int i_1)], [])) (fun i_1 hb => hC [1, 0, 1, 0] ([(0, .d false (.sl .int) x.1), (1, .d false .int x.2.1), (5, .d true .int i_1)], []) (Eq.mpr (by kernel_rfl) hb))
  exact Eq.mpr (by kernel_rfl) h0
theorem cHasL8_ok : ConOK Go.Proofs.Try.prog 26 cHasL8 := by
  refine cHasL8_law ?_
  intro l n hw Λ1 h1
  unfold cHasL8_0
  have hla : l.length ≤ 140737488355328 := hw.1.1
  refine upto (n := l.length) (Q := fun i => (l.take i).any (fun r => r == n) = false → Λ1 i) ?_ ?_ 0 (Nat.zero_le _) rfl
  · intro ha
    rw [List.take_length] at ha
    apply h1; unfold cHasL8_1; rw [if_neg (by simp)]
    refine ⟨?_, trivial⟩
    have : ¬ n ∈ l := fun h => by
      have := List.any_eq_false.1 ha n h
      simp at this
    simp [this]
  · intro i hi ih ha
    apply h1; unfold cHasL8_1; rw [if_pos (by simpa using hi), Int.toNat_natCast]
    refine ⟨idx_nat hi, ?_⟩
    cases hv : (List.getD l i 0 == n)
    · rw [if_neg (by simp)]
      exact ⟨inI_succ hi hla, ih (any_take_next (p := fun r => r == n) 0 hi ha hv)⟩
    · rw [if_pos (by rfl)]
      have : n ∈ l := by
        have e := eq_of_beq hv
        rw [← e]; exact mem_getD hi
      exact ⟨by simp [this], trivial⟩
abbrev saneT : Ste := [[1, 1, 0], [0, 1, 1], [0, 0, 1]]
theorem sane_sort : sortL [0, 1, 2] = [0, 1, 2] := by
  unfold sortL
  exact List.mergeSort_of_pairwise (by decide)
theorem sane1 : validT saneT = 0 := by decide +kernel
theorem sane2 : coverS saneT = [0, 1] := by decide +kernel
theorem sane3 : exclT saneT = [0, 2] := by decide +kernel
theorem sane4 : essT saneT = [0] := by decide +kernel
theorem sane5 : needT saneT = [2] := by decide +kernel
theorem sane6 : ordT saneT [0, 1, 2] = 0 := by
  unfold ordT
  rw [if_pos sane1, sane_sort]
  decide +kernel
theorem sane7 : waitL saneT [0, 1, 2] = 4 := by decide +kernel
abbrev cSane8 : Con := { A := .nil, R := (.cons .bool .nil), pre := fun x => True, F := fun x => (true, ()) }
def cSane8_0   (y0 : Bool) : Prop :=
  True ∧ (True ∧ (True ∧ (True ∧ ([(0 : Int), (1 : Int), (2 : Int)].length ≤ 1000000 ∧ (if ((validT ([[(1 : Int), (1 : Int), (0 : Int)], [(0 : Int), (1 : Int), (1 : Int)], [(0 : Int), (0 : Int), (1 : Int)]])) == (0 : Int)) = true then (True ∧ (True ∧ (if (bif true then (decide (((if validT ([[(1 : Int), (1 : Int), (0 : Int)], [(0 : Int), (1 : Int), (1 : Int)], [(0 : Int), (0 : Int), (1 : Int)]]) = 0 then coverS ([[(1 : Int), (1 : Int), (0 : Int)], [(0 : Int), (1 : Int), (1 : Int)], [(0 : Int), (0 : Int), (1 : Int)]]) else [])) = [(0 : Int), (1 : Int)])) else false) = true then (True ∧ (if (bif true then ((validT ([[(1 : Int), (1 : Int), (0 : Int)], [(0 : Int), (1 : Int), (1 : Int)], [(0 : Int), (0 : Int), (1 : Int)]])) == (0 : Int)) else false) = true then (True ∧ (True ∧ (if (bif true then (decide (((if validT ([[(1 : Int), (1 : Int), (0 : Int)], [(0 : Int), (1 : Int), (1 : Int)], [(0 : Int), (0 : Int), (1 : Int)]]) = 0 then exclT ([[(1 : Int), (1 : Int), (0 : Int)], [(0 : Int), (1 : Int), (1 : Int)], [(0 : Int), (0 : Int), (1 : Int)]]) else [])) = [(0 : Int), (2 : Int)])) else false) = true then (True ∧ (if (bif true then ((validT ([[(1 : Int), (1 : Int), (0 : Int)], [(0 : Int), (1 : Int), (1 : Int)], [(0 : Int), (0 : Int), (1 : Int)]])) == (0 : Int)) else false) = true then (True ∧ (True ∧ (if (bif true then (decide (((if validT ([[(1 : Int), (1 : Int), (0 : Int)], [(0 : Int), (1 : Int), (1 : Int)], [(0 : Int), (0 : Int), (1 : Int)]]) = 0 then essT ([[(1 : Int), (1 : Int), (0 : Int)], [(0 : Int), (1 : Int), (1 : Int)], [(0 : Int), (0 : Int), (1 : Int)]]) else [])) = [(0 : Int)])) else false) = true then (True ∧ (if (bif true then ((validT ([[(1 : Int), (1 : Int), (0 : Int)], [(0 : Int), (1 : Int), (1 : Int)], [(0 : Int), (0 : Int), (1 : Int)]])) == (0 : Int)) else false) = true then (True ∧ (True ∧ (if (bif true then (decide (((if validT ([[(1 : Int), (1 : Int), (0 : Int)], [(0 : Int), (1 : Int), (1 : Int)], [(0 : Int), (0 : Int), (1 : Int)]]) = 0 then needT ([[(1 : Int), (1 : Int), (0 : Int)], [(0 : Int), (1 : Int), (1 : Int)], [(0 : Int), (0 : Int), (1 : Int)]]) else [])) = [(2 : Int)])) else false) = true then (True ∧ (if (bif true then ((ordT ([[(1 : Int), (1 : Int), (0 : Int)], [(0 : Int), (1 : Int), (1 : Int)], [(0 : Int), (0 : Int), (1 : Int)]]) [(0 : Int), (1 : Int), (2 : Int)]) == (0 : Int)) else false) = true then (True ∧ ((bif true then (((if ordT ([[(1 : Int), (1 : Int), (0 : Int)], [(0 : Int), (1 : Int), (1 : Int)], [(0 : Int), (0 : Int), (1 : Int)]]) [(0 : Int), (1 : Int), (2 : Int)] = 0 then waitL ([[(1 : Int), (1 : Int), (0 : Int)], [(0 : Int), (1 : Int), (1 : Int)], [(0 : Int), (0 : Int), (1 : Int)]]) [(0 : Int), (1 : Int), (2 : Int)] else 0)) == (4 : Int)) else false) = y0 ∧ True)) else (false = false ∧ (false = y0 ∧ True)))) else (false = false ∧ (false = false ∧ (false = y0 ∧ True)))))) else (false = false ∧ (false = false ∧ (false = false ∧ (false = y0 ∧ True)))))) else (false = false ∧ (false = false ∧ (false = false ∧ (false = false ∧ (false = y0 ∧ True)))))))) else (false = false ∧ (false = false ∧ (false = false ∧ (false = false ∧ (false = false ∧ (false = y0 ∧ True)))))))) else (false = false ∧ (false = false ∧ (false = false ∧ (false = false ∧ (false = false ∧ (false = false ∧ (false = y0 ∧ True)))))))))) else (false = false ∧ (false = false ∧ (false = false ∧ (false = false ∧ (false = false ∧ (false = false ∧ (false = false ∧ (false = y0 ∧ True)))))))))) else (false = false ∧ (false = false ∧ (false = false ∧ (false = false ∧ (false = false ∧ (false = false ∧ (false = false ∧ (false = false ∧ (false = y0 ∧ True)))))))))))) else (false = false ∧ (false = false ∧ (false = false ∧ (false = false ∧ (false = false ∧ (false = false ∧ (false = false ∧ (false = false ∧ (false = false ∧ (false = y0 ∧ True)))))))))))))))
theorem cSane8_law (h : cSane8.A.wf (()) → cSane8_0   true) : ConOK Go.Proofs.Try.prog 18 cSane8 := by
  refine lawL (Γ := [(27, cCover), (22, cEssential), (19, cExcluding), (24, cNeedless), (21, cSameI8), (45, cWaitS)]) (Θ := Th) (n := 84) [] ⟨cCover_ok, cEssential_ok, cExcluding_ok, cNeedless_ok, cSameI8_ok, cWaitS_ok, trivial⟩ (by kernel_rfl) th_ok mix_ok Go.Proofs.Try.func18 (by kernel_rfl) ?_
  intro x hw hp Λ hC
  have h0 := h  hw  
  exact Eq.mpr (by kernel_rfl) h0
theorem cSane8_ok : ConOK Go.Proofs.Try.prog 18 cSane8 := by
  refine cSane8_law ?_
  intro hw
  unfold cSane8_0
  simp only [sane1, sane2, sane3, sane4, sane5, sane6, sane7]
  simp
abbrev cGoals8r : Con := { A := (.cons (.sl (.sl .int)) .nil), R := (.cons .int .nil), pre := fun x => True, F := fun x => ((goals8 x.1 : Int), ()) }
def cGoals8r_0  (t : (List (List Int))) (y0 : Int) : Prop :=
  if ((List.length t : Int) == (0 : Int)) = true then ((0 : Int) = y0 ∧ True) else (idx (0 : Int) (List.length t : Int) ∧ ((List.length (List.getD t (Int.toNat (0 : Int)) ([] : List Int)) : Int) = y0 ∧ True))
theorem cGoals8r_law (h : ∀ (t : (List (List Int))), cGoals8r.A.wf (t, ()) → cGoals8r_0  t (goals8 t : Int)) : ConOK Go.Proofs.Try.prog 62 cGoals8r := by
  refine lawL (Γ := []) (Θ := Th) (n := 10) [] trivial (by kernel_rfl) th_ok mix_ok Go.Proofs.Try.func62 (by kernel_rfl) ?_
  intro x hw hp Λ hC
  have h0 := h x.1 hw  
  exact Eq.mpr (by kernel_rfl) h0
theorem cGoals8r_ok : ConOK Go.Proofs.Try.prog 62 cGoals8r := by
  refine cGoals8r_law ?_
  intro t hw
  unfold cGoals8r_0
  unfold goals8
  cases t with
  | nil => exact ⟨rfl, trivial⟩
  | cons r t =>
    rw [if_neg (by simp; omega)]
    exact ⟨⟨by omega, by simp⟩, rfl, trivial⟩
def row01 (r : List Int) (k : Nat) : Prop := ∀ g, g < k → is01 (r.getD g 0) = true
theorem row01_all {r : List Int} (h : row01 r r.length) : r.all is01 = true := by
  rw [List.all_eq_true]
  intro x hx
  obtain ⟨i, hi, e⟩ := List.mem_iff_getElem.1 hx
  have := h i hi
  rw [List.getD_eq_getElem?_getD, List.getElem?_eq_getElem hi, Option.getD_some, e] at this
  exact this
theorem row01_bad {r : List Int} {g : Nat} (hg : g < r.length) (h : is01 (r.getD g 0) = false) : r.all is01 = false := by
  rw [Bool.eq_false_iff]
  intro ha
  rw [List.all_eq_true] at ha
  rw [ha _ (mem_getD hg)] at h
  cases h
abbrev cVal8r : Con := { A := (.cons (.sl (.sl .int)) .nil), R := (.cons .int .nil), pre := fun x => True, F := fun x => (validT x.1, ()) }
def cVal8r_0 (Λ1 : Int → Prop) (Λ2 : Int → Int → Prop) (t : (List (List Int))) (y0 : Int) : Prop :=
  if (decide ((List.length t : Int) > (8 : Int))) = true then (true = true ∧ ((3 : Int) = y0 ∧ True)) else (if (decide ((List.length t : Int) > (0 : Int))) = true then (idx (0 : Int) (List.length t : Int) ∧ (True ∧ (True ∧ (if (bif false then true else (bif true then (decide ((List.length (List.getD t (Int.toNat (0 : Int)) ([] : List Int)) : Int) > (10 : Int))) else false)) = true then ((3 : Int) = y0 ∧ True) else Λ1 (0 : Int))))) else (false = false ∧ (True ∧ (if (bif false then true else false) = true then ((3 : Int) = y0 ∧ True) else Λ1 (0 : Int)))))
def cVal8r_1 (Λ1 : Int → Prop) (Λ2 : Int → Int → Prop) (t : (List (List Int))) (y0 : Int)  (i_1 : Int) : Prop :=
  if (decide (i_1 < (List.length t : Int))) = true then (idx i_1 (List.length t : Int) ∧ (idx (0 : Int) (List.length t : Int) ∧ (if ((List.length (List.getD t (Int.toNat i_1) ([] : List Int)) : Int) != (List.length (List.getD t (Int.toNat (0 : Int)) ([] : List Int)) : Int)) = true then ((1 : Int) = y0 ∧ True) else Λ2 i_1 (0 : Int)))) else ((0 : Int) = y0 ∧ True)
def cVal8r_2 (Λ1 : Int → Prop) (Λ2 : Int → Int → Prop) (t : (List (List Int))) (y0 : Int) (i_1 : Int) (g_2 : Int) : Prop :=
  idx i_1 (List.length t : Int) ∧ (if (decide (g_2 < (List.length (List.getD t (Int.toNat i_1) ([] : List Int)) : Int))) = true then (idx i_1 (List.length t : Int) ∧ (idx g_2 (List.length (List.getD t (Int.toNat i_1) ([] : List Int)) : Int) ∧ (if ((List.getD (List.getD t (Int.toNat i_1) ([] : List Int)) (Int.toNat g_2) 0) != (0 : Int)) = true then (idx i_1 (List.length t : Int) ∧ (idx g_2 (List.length (List.getD t (Int.toNat i_1) ([] : List Int)) : Int) ∧ (True ∧ (if (bif true then ((List.getD (List.getD t (Int.toNat i_1) ([] : List Int)) (Int.toNat g_2) 0) != (1 : Int)) else false) = true then ((1 : Int) = y0 ∧ True) else (inI (g_2 + (1 : Int)) ∧ Λ2 i_1 (g_2 + (1 : Int))))))) else (false = false ∧ (inI (g_2 + (1 : Int)) ∧ Λ2 i_1 (g_2 + (1 : Int))))))) else (inI (i_1 + (1 : Int)) ∧ Λ1 (i_1 + (1 : Int))))
theorem cVal8r_law (h : ∀ (t : (List (List Int))), cVal8r.A.wf (t, ()) → ∀ (Λ1 : Int → Prop) (Λ2 : Int → Int → Prop), (∀ (i_1 : Int), cVal8r_1 Λ1 Λ2 t (validT t) i_1 → Λ1 i_1) → (∀ (i_1 : Int) (g_2 : Int), cVal8r_2 Λ1 Λ2 t (validT t) i_1 g_2 → Λ2 i_1 g_2) → cVal8r_0 Λ1 Λ2 t (validT t)) : ConOK Go.Proofs.Try.prog 36 cVal8r := by
  refine lawL (Γ := []) (Θ := Th) (n := 63) [([1, 1, 0, 1, 0], ⟨[(0, false), (3, true)], []⟩), ([1, 1, 0, 1, 0, 0, 1, 0, 0, 1, 1, 0], ⟨[(0, false), (3, true), (4, true)], []⟩)] trivial (by kernel_rfl) th_ok mix_ok Go.Proofs.Try.func36 (by kernel_rfl) ?_
  intro x hw hp Λ hC
  have h0 := h x.1 hw (fun i_1 => Λ [1, 1, 0, 1, 0] ([(0, .d false (.sl (.sl .int)) x.1), (3, .d true .int i_1)], [])) (fun i_1 g_2 => Λ [1, 1, 0, 1, 0, 0, 1, 0, 0, 1, 1, 0] ([(0, .d false (.sl (.sl .int)) x.1), (3, .d true .int i_1), (4, .d true .int g_2)], [])) (fun i_1 hb => hC [1, 1, 0, 1, 0] ([(0, .d false (.sl (.sl .int)) x.1), (3, .d true .int i_1)], []) (Eq.mpr (by kernel_rfl) hb)) (fun i_1 g_2 hb => hC [1, 1, 0, 1, 0, 0, 1, 0, 0, 1, 1, 0] ([(0, .d false (.sl (.sl .int)) x.1), (3, .d true .int i_1), (4, .d true .int g_2)], []) (Eq.mpr (by kernel_rfl) hb))
  exact Eq.mpr (by kernel_rfl) h0
theorem cVal8r_ok : ConOK Go.Proofs.Try.prog 36 cVal8r := by
  refine cVal8r_law ?_
  intro t hw Λ1 Λ2 h1 h2
  unfold cVal8r_0
  have hl : t.length ≤ 140737488355328 := hw.1.1
  have hlr : ∀ i, i < t.length → (t.getD i []).length ≤ 140737488355328 := fun i hi => (hw.1.2 _ (mem_getD hi)).1
  have hgo : ∀ (hno : ¬ (t.length > 8 ∨ goals8 t > 10)), Λ1 (0 : Int) := by
    intro hno
    have hv0 : validT t = argErr (t.all (rowOk t)) := by unfold validT; rw [if_neg hno]
    rw [hv0] at h1 h2
    refine upto (n := t.length) (Q := fun i => (t.take i).all (rowOk t) = true → Λ1 i) ?_ ?_ 0 (Nat.zero_le _) rfl
    · intro ha
      rw [List.take_length] at ha
      apply h1; unfold cVal8r_1; rw [if_neg (by simp), ha]
      exact ⟨rfl, trivial⟩
    · intro i hi ih ha
      apply h1; unfold cVal8r_1; rw [if_pos (by simpa using hi)]
      refine ⟨idx_nat hi, ⟨by omega, by omega⟩, ?_⟩
      rw [Int.toNat_natCast, show (Int.toNat 0) = 0 from rfl]
      have hbad : rowOk t (t.getD i []) = false → (1 : Int) = argErr (t.all (rowOk t)) := fun hv => by rw [all_false_at (p := rowOk t) [] hi hv]; rfl
      have hnext : rowOk t (t.getD i []) = true → Λ1 ((i : Int) + 1) := fun hv => ih (all_take_next [] hi ha hv)
      have hin := inI_succ hi hl
      have hr8 := hlr i hi
      obtain ⟨r, hr⟩ : ∃ r, r = t.getD i [] := ⟨_, rfl⟩
      rw [← hr] at hbad hnext hr8 ⊢
      by_cases hg : r.length = goals8 t
      · rw [if_neg (by unfold goals8 at hg; simp only [bne_iff_ne, ne_eq, Decidable.not_not]; omega)]
        refine upto (n := r.length) (Q := fun g => row01 r g → Λ2 (i : Int) (g : Int)) ?_ ?_ 0 (Nat.zero_le _) (fun g hg => by omega)
        · intro ha2
          apply h2; unfold cVal8r_2
          rw [Int.toNat_natCast, ← hr]
          refine ⟨idx_nat hi, ?_⟩
          rw [if_neg (by simp)]
          exact ⟨hin, hnext (by unfold rowOk; rw [row01_all ha2]; simp [hg])⟩
        · intro g hg2 ih2 ha2
          apply h2; unfold cVal8r_2
          rw [Int.toNat_natCast, Int.toNat_natCast, ← hr]
          refine ⟨idx_nat hi, ?_⟩
          rw [if_pos (by simpa using hg2)]
          refine ⟨idx_nat hi, idx_nat hg2, ?_⟩
          have hb2 : is01 (r.getD g 0) = false → (1 : Int) = argErr (t.all (rowOk t)) := fun h => hbad (by unfold rowOk; rw [row01_bad hg2 h]; simp)
          have hn2 : is01 (r.getD g 0) = true → Λ2 (i : Int) ((g : Int) + 1) := fun h => ih2 fun k hk => by
            rcases Nat.lt_or_ge k g with q | q
            · exact ha2 k q
            · obtain rfl : k = g := by omega
              exact h
          have hin2 : inI ((g : Int) + 1) := by unfold inI; omega
          generalize r.getD g 0 = x at hb2 hn2 ⊢
          by_cases x0 : x = 0
          · rw [if_neg (by simp [x0])]
            exact ⟨rfl, hin2, hn2 (is01_iff.2 (.inl x0))⟩
          · rw [if_pos (by simpa using x0)]
            refine ⟨idx_nat hi, idx_nat hg2, trivial, ?_⟩
            by_cases x1 : x = 1
            · rw [if_neg (by simp [x1])]
              exact ⟨hin2, hn2 (is01_iff.2 (.inr x1))⟩
            · rw [if_pos (by simpa using x1)]
              refine ⟨hb2 ?_, trivial⟩
              rw [Bool.eq_false_iff]
              intro h
              rcases is01_iff.1 h with h | h
              · exact x0 h
              · exact x1 h
      · rw [if_pos (by unfold goals8 at hg; simp only [bne_iff_ne, ne_eq]; omega)]
        exact ⟨hbad (by unfold rowOk; simp [hg]), trivial⟩
  have hbig : (t.length > 8 ∨ goals8 t > 10) → (3 : Int) = validT t := fun h => by unfold validT; rw [if_pos h]
  unfold goals8 at hgo hbig
  by_cases h8 : t.length > 8
  · rw [if_pos (by simp; omega)]
    exact ⟨rfl, hbig (.inl h8), trivial⟩
  · rw [if_neg (by simp; omega)]
    by_cases h0 : t.length > 0
    · rw [if_pos (by simp; omega)]
      refine ⟨⟨by omega, by omega⟩, trivial, trivial, ?_⟩
      rw [show (Int.toNat 0) = 0 from rfl]
      generalize (t.getD 0 []).length = k at hbig hgo ⊢
      by_cases h10 : k > 10
      · rw [if_pos (by simp; omega)]
        exact ⟨hbig (.inr h10), trivial⟩
      · rw [if_neg (by simp; omega)]
        exact hgo (fun h => h.elim h8 h10)
    · rw [if_neg (by simp only [decide_eq_true_eq]; omega)]
      refine ⟨rfl, trivial, ?_⟩
      rw [if_neg (by simp)]
      refine hgo ?_
      have : t = [] := List.eq_nil_of_length_eq_zero (by omega)
      subst this
      simp
abbrev cIsSet8r : Con := { A := (.cons (.sl .int) (.cons .int .nil)), R := (.cons .bool .nil), pre := fun x => 0 ≤ x.2.1 ∧ x.2.1 ≤ 1000000 ∧ x.1.length ≤ 1000000, F := fun x => (isSet8 x.1 x.2.1.toNat, ()) }
def cIsSet8r_0 (Λ1 : Int → Prop) (l : (List Int)) (n : Int) (y0 : Bool) : Prop :=
  Λ1 (0 : Int)
def cIsSet8r_1 (Λ1 : Int → Prop) (l : (List Int)) (n : Int) (y0 : Bool)  (i_1 : Int) : Prop :=
  if (decide (i_1 < (List.length l : Int))) = true then (idx i_1 (List.length l : Int) ∧ (if (decide ((List.getD l (Int.toNat i_1) 0) < (0 : Int))) = true then (true = true ∧ (true = true ∧ (false = y0 ∧ True))) else (idx i_1 (List.length l : Int) ∧ (True ∧ (if (bif false then true else (decide ((List.getD l (Int.toNat i_1) 0) ≥ n))) = true then (true = true ∧ (false = y0 ∧ True)) else (if (decide (i_1 > (0 : Int))) = true then (inI (i_1 - (1 : Int)) ∧ (idx (i_1 - (1 : Int)) (List.length l : Int) ∧ (idx i_1 (List.length l : Int) ∧ (True ∧ (True ∧ (if (bif false then true else (bif true then (decide ((List.getD l (Int.toNat (i_1 - (1 : Int))) 0) ≥ (List.getD l (Int.toNat i_1) 0))) else false)) = true then (false = y0 ∧ True) else (inI (i_1 + (1 : Int)) ∧ Λ1 (i_1 + (1 : Int))))))))) else (false = false ∧ (True ∧ (if (bif false then true else false) = true then (false = y0 ∧ True) else (inI (i_1 + (1 : Int)) ∧ Λ1 (i_1 + (1 : Int)))))))))))) else (true = y0 ∧ True)
theorem cIsSet8r_law (h : ∀ (l : (List Int)) (n : Int), cIsSet8r.A.wf (l, n, ()) → (0 ≤ n ∧ n ≤ 1000000 ∧ l.length ≤ 1000000) → ∀ (Λ1 : Int → Prop), (∀ (i_1 : Int), cIsSet8r_1 Λ1 l n (isSet8 l n.toNat) i_1 → Λ1 i_1) → cIsSet8r_0 Λ1 l n (isSet8 l n.toNat)) : ConOK Go.Proofs.Try.prog 107 cIsSet8r := by
  refine lawL (Γ := []) (Θ := Th) (n := 41) [([1, 0, 1, 0], ⟨[(0, false), (1, false), (5, true)], []⟩)] trivial (by kernel_rfl) th_ok mix_ok Go.Proofs.Try.func107 (by kernel_rfl) ?_
  intro x hw hp Λ hC
  have h0 := h x.1 x.2.1 hw hp (fun i_1 => Λ [1, 0, 1, 0] ([(0, .d false (.sl .int) x.1), (1, .d false .int x.2.1), (5, .d true .int i_1)], [])) (fun i_1 hb => hC [1, 0, 1, 0] ([(0, .d false (.sl .int) x.1), (1, .d false .int x.2.1), (5, .d true .int i_1)], []) (Eq.mpr (by kernel_rfl) hb))
  exact Eq.mpr (by kernel_rfl) h0
theorem cIsSet8r_ok : ConOK Go.Proofs.Try.prog 107 cIsSet8r := by
  refine cIsSet8r_law ?_
  intro l n hw hp Λ1 h1
  unfold cIsSet8r_0
  obtain ⟨p1, p2, p3⟩ := hp
  obtain ⟨m, rfl⟩ : ∃ m : Nat, n = m := ⟨n.toNat, by omega⟩
  rw [Int.toNat_natCast] at h1
  refine upto (n := l.length) (Q := fun i => (∀ k, k < i → setAt l m k = true) → Λ1 i) ?_ ?_ 0 (Nat.zero_le _) (fun k h => by omega)
  · intro ha
    apply h1; unfold cIsSet8r_1; rw [if_neg (by simp)]
    rw [isSet8_all ha]
    exact ⟨rfl, trivial⟩
  · intro i hi ih ha
    apply h1; unfold cIsSet8r_1; rw [if_pos (by simpa using hi)]
    have hbad : setAt l m i = false → false = isSet8 l m := fun h => by rw [isSet8_bad hi h]
    have hnext : setAt l m i = true → Λ1 ((i : Int) + 1) := fun h => ih (isSet8_upto ha h)
    have hin : inI ((i : Int) + 1) := by unfold inI; omega
    unfold setAt at hbad hnext
    refine ⟨idx_nat hi, ?_⟩
    rw [Int.toNat_natCast]
    by_cases hi0 : i = 0
    · subst hi0
      simp only [Nat.zero_sub] at hbad hnext
      generalize l.getD 0 0 = x at hbad hnext ⊢
      by_cases x0 : x < 0
      · rw [if_pos (by simpa using x0)]
        exact ⟨rfl, rfl, hbad (by simp; omega), trivial⟩
      · rw [if_neg (by simpa using x0)]
        refine ⟨idx_nat hi, trivial, ?_⟩
        by_cases xm : x ≥ m
        · rw [if_pos (by simpa using xm)]
          exact ⟨rfl, hbad (by simp; omega), trivial⟩
        · rw [if_neg (by simpa using xm), if_neg (by simp)]
          refine ⟨rfl, trivial, ?_⟩
          rw [if_neg (by simp)]
          exact ⟨hin, hnext (by simp; omega)⟩
    · generalize hx : l.getD i 0 = x at hbad hnext ⊢
      by_cases x0 : x < 0
      · rw [if_pos (by simpa using x0)]
        exact ⟨rfl, rfl, hbad (by simp; omega), trivial⟩
      · rw [if_neg (by simpa using x0)]
        refine ⟨idx_nat hi, trivial, ?_⟩
        by_cases xm : x ≥ m
        · rw [if_pos (by simpa using xm)]
          exact ⟨rfl, hbad (by simp; omega), trivial⟩
        · rw [if_neg (by simpa using xm), if_pos (by simp; omega)]
          refine ⟨by unfold inI; omega, ⟨by omega, by omega⟩, idx_nat hi, trivial, trivial, ?_⟩
          rw [show ((i : Int) - 1).toNat = i - 1 by omega]
          generalize l.getD (i - 1) 0 = y at hbad hnext ⊢
          by_cases hlt : y < x
          · rw [if_neg (by simp; omega)]
            exact ⟨hin, hnext (by simp; omega)⟩
          · rw [if_pos (by simp; omega)]
            exact ⟨hbad (by simp; omega), trivial⟩
abbrev cMet8r : Con := { A := (.cons (.sl (.sl .int)) (.cons (.sl .int) .nil)), R := (.cons (.osl .int) .nil), pre := fun x => okT x.1 ∧ inT x.1 x.2.1 ∧ x.2.1.length ≤ 1000000, F := fun x => (metL x.1 x.2.1, ()) }
def cMet8r_0 (Λ1 : Int → (List Int) → Prop) (Λ2 : Int → (List Int) → Int → Prop) (t : (List (List Int))) (rows : (List Int)) (y0 : (List Int)) : Prop :=
  Λ1 (0 : Int) ([] : List Int)
def cMet8r_1 (Λ1 : Int → (List Int) → Prop) (Λ2 : Int → (List Int) → Int → Prop) (t : (List (List Int))) (rows : (List Int)) (y0 : (List Int))  (g_1 : Int) (out_1 : (List Int)) : Prop :=
  True ∧ (if (decide (g_1 < ((goals8 t : Int)))) = true then Λ2 g_1 out_1 (0 : Int) else out_1 = y0)
def cMet8r_2 (Λ1 : Int → (List Int) → Prop) (Λ2 : Int → (List Int) → Int → Prop) (t : (List (List Int))) (rows : (List Int)) (y0 : (List Int)) (g_1 : Int) (out_1 : (List Int)) (i_2 : Int) : Prop :=
  if (decide (i_2 < (List.length rows : Int))) = true then (idx i_2 (List.length rows : Int) ∧ (idx (List.getD rows (Int.toNat i_2) 0) (List.length t : Int) ∧ (idx g_1 (List.length (List.getD t (Int.toNat (List.getD rows (Int.toNat i_2) 0)) ([] : List Int)) : Int) ∧ (if ((List.getD (List.getD t (Int.toNat (List.getD rows (Int.toNat i_2) 0)) ([] : List Int)) (Int.toNat g_1) 0) == (1 : Int)) = true then (List.length out_1 + List.length [g_1] ≤ 4294967296 ∧ (inI (g_1 + (1 : Int)) ∧ Λ1 (g_1 + (1 : Int)) (out_1 ++ [g_1]))) else (inI (i_2 + (1 : Int)) ∧ Λ2 g_1 out_1 (i_2 + (1 : Int))))))) else (inI (g_1 + (1 : Int)) ∧ Λ1 (g_1 + (1 : Int)) out_1)
theorem cMet8r_law (h : ∀ (t : (List (List Int))) (rows : (List Int)), cMet8r.A.wf (t, rows, ()) → (okT t ∧ inT t rows ∧ rows.length ≤ 1000000) → ∀ (Λ1 : Int → (List Int) → Prop) (Λ2 : Int → (List Int) → Int → Prop), (∀ (g_1 : Int) (out_1 : (List Int)), cMet8r_1 Λ1 Λ2 t rows (metL t rows) g_1 out_1 → Λ1 g_1 out_1) → (∀ (g_1 : Int) (out_1 : (List Int)) (i_2 : Int), cMet8r_2 Λ1 Λ2 t rows (metL t rows) g_1 out_1 i_2 → Λ2 g_1 out_1 i_2) → cMet8r_0 Λ1 Λ2 t rows (metL t rows)) : ConOK Go.Proofs.Try.prog 71 cMet8r := by
  refine lawL (Γ := [(62, cGoals8r)]) (Θ := Th) (n := 36) [([1, 1, 0, 1, 0], ⟨[(0, false), (1, false), (5, true), (6, true)], [(5, true)]⟩), ([1, 1, 0, 1, 0, 0, 1, 0, 0, 1, 0], ⟨[(0, false), (1, false), (5, true), (6, true), (7, true)], [(5, true)]⟩)] ⟨cGoals8r_ok, trivial⟩ (by kernel_rfl) th_ok mix_ok Go.Proofs.Try.func71 (by kernel_rfl) ?_
  intro x hw hp Λ hC
  have h0 := h x.1 x.2.1 hw hp (fun g_1 out_1 => Λ [1, 1, 0, 1, 0] ([(0, .d false (.sl (.sl .int)) x.1), (1, .d false (.sl .int) x.2.1), (5, .own 5 0), (6, .d true .int g_1)], [(5, .sl true .int out_1)])) (fun g_1 out_1 i_2 => Λ [1, 1, 0, 1, 0, 0, 1, 0, 0, 1, 0] ([(0, .d false (.sl (.sl .int)) x.1), (1, .d false (.sl .int) x.2.1), (5, .own 5 0), (6, .d true .int g_1), (7, .d true .int i_2)], [(5, .sl true .int out_1)])) (fun g_1 out_1 hb => hC [1, 1, 0, 1, 0] ([(0, .d false (.sl (.sl .int)) x.1), (1, .d false (.sl .int) x.2.1), (5, .own 5 0), (6, .d true .int g_1)], [(5, .sl true .int out_1)]) (Eq.mpr (by kernel_rfl) hb)) (fun g_1 out_1 i_2 hb => hC [1, 1, 0, 1, 0, 0, 1, 0, 0, 1, 0] ([(0, .d false (.sl (.sl .int)) x.1), (1, .d false (.sl .int) x.2.1), (5, .own 5 0), (6, .d true .int g_1), (7, .d true .int i_2)], [(5, .sl true .int out_1)]) (Eq.mpr (by kernel_rfl) hb))
  exact Eq.mpr (by kernel_rfl) h0
theorem cMet8r_ok : ConOK Go.Proofs.Try.prog 71 cMet8r := by
  refine cMet8r_law ?_
  intro t rows hw hp Λ1 Λ2 h1 h2
  unfold cMet8r_0
  obtain ⟨p1, p2, p3⟩ := hp
  have hg := p1.2.1
  refine upto (n := goals8 t) (Q := fun i => Λ1 i (metK t rows i)) ?_ ?_ 0 (Nat.zero_le _)
  · apply h1; unfold cMet8r_1; rw [if_neg (by simp)]
    exact ⟨trivial, rfl⟩
  · intro i hi ih
    apply h1; unfold cMet8r_1; rw [if_pos (by simpa using hi)]
    refine ⟨trivial, ?_⟩
    have hml := metK_len t rows i
    rw [metK_succ] at ih
    have hin : inI ((i : Int) + 1) := by unfold inI; omega
    refine upto (n := rows.length) (Q := fun j => (rows.take j).any (fun r => hits t r i) = false → Λ2 (i : Int) (metK t rows i) (j : Int)) ?_ ?_ 0 (Nat.zero_le _) rfl
    · intro ha
      rw [List.take_length] at ha
      rw [ha] at ih
      apply h2; unfold cMet8r_2
      rw [if_neg (by simp)]
      exact ⟨hin, by simpa using ih⟩
    · intro j hj ihj ha
      apply h2; unfold cMet8r_2
      rw [Int.toNat_natCast, Int.toNat_natCast, if_pos (by simpa using hj)]
      have hr := p2 _ (mem_getD (d := 0) hj)
      have hyes : hits t (rows.getD j 0) i = true → (rows.any fun r => hits t r i) = true := fun h => List.any_eq_true.2 ⟨_, mem_getD hj, h⟩
      have hno : hits t (rows.getD j 0) i = false → Λ2 (i : Int) (metK t rows i) ((j : Int) + 1) := fun h => ihj (any_take_next (p := fun r => hits t r i) 0 hj ha h)
      generalize rows.getD j 0 = r at hr hyes hno ⊢
      have hrow := okT_row p1 (i := r.toNat) (by omega)
      refine ⟨idx_nat hj, ⟨hr.1, hr.2⟩, ⟨by omega, by rw [hrow]; omega⟩, ?_⟩
      unfold hits at hyes hno
      cases hv : ((t.getD r.toNat []).getD i 0 == 1)
      · rw [if_neg (by simp)]
        exact ⟨by unfold inI; omega, hno hv⟩
      · rw [if_pos rfl]
        have ha2 := hyes hv
        have ih2 : Λ1 ((i + 1 : Nat) : Int) (metK t rows i ++ [(i : Int)]) := by
          rw [if_pos (by unfold hits; exact ha2)] at ih; exact ih
        exact ⟨by simp; omega, hin, ih2⟩
abbrev cAll8r : Con := { A := (.cons .int .nil), R := (.cons (.osl .int) .nil), pre := fun x => 0 ≤ x.1 ∧ x.1 ≤ 1000000, F := fun x => (nums x.1.toNat, ()) }
def cAll8r_0 (Λ1 : Int → (List Int) → Prop) (n : Int) (y0 : (List Int)) : Prop :=
  Λ1 (0 : Int) ([] : List Int)
def cAll8r_1 (Λ1 : Int → (List Int) → Prop) (n : Int) (y0 : (List Int))  (i_1 : Int) (out_1 : (List Int)) : Prop :=
  if (decide (i_1 < n)) = true then (List.length out_1 + List.length [i_1] ≤ 4294967296 ∧ (inI (i_1 + (1 : Int)) ∧ Λ1 (i_1 + (1 : Int)) (out_1 ++ [i_1]))) else out_1 = y0
theorem cAll8r_law (h : ∀ (n : Int), cAll8r.A.wf (n, ()) → (0 ≤ n ∧ n ≤ 1000000) → ∀ (Λ1 : Int → (List Int) → Prop), (∀ (i_1 : Int) (out_1 : (List Int)), cAll8r_1 Λ1 n (nums n.toNat) i_1 out_1 → Λ1 i_1 out_1) → cAll8r_0 Λ1 n (nums n.toNat)) : ConOK Go.Proofs.Try.prog 105 cAll8r := by
  refine lawL (Γ := []) (Θ := Th) (n := 15) [([1, 1, 0, 1, 0], ⟨[(0, false), (3, true), (4, true)], [(3, true)]⟩)] trivial (by kernel_rfl) th_ok mix_ok Go.Proofs.Try.func105 (by kernel_rfl) ?_
  intro x hw hp Λ hC
  have h0 := h x.1 hw hp (fun i_1 out_1 => Λ [1, 1, 0, 1, 0] ([(0, .d false .int x.1), (3, .own 3 0), (4, .d true .int i_1)], [(3, .sl true .int out_1)])) (fun i_1 out_1 hb => hC [1, 1, 0, 1, 0] ([(0, .d false .int x.1), (3, .own 3 0), (4, .d true .int i_1)], [(3, .sl true .int out_1)]) (Eq.mpr (by kernel_rfl) hb))
  exact Eq.mpr (by kernel_rfl) h0
theorem cAll8r_ok : ConOK Go.Proofs.Try.prog 105 cAll8r := by
  refine cAll8r_law ?_
  intro n hw hp Λ1 h1
  unfold cAll8r_0
  obtain ⟨m, rfl⟩ : ∃ m : Nat, n = m := ⟨n.toNat, by omega⟩
  rw [Int.toNat_natCast] at h1
  refine upto (n := m) (Q := fun i => Λ1 i (nums i)) ?_ ?_ 0 (Nat.zero_le _)
  · apply h1; unfold cAll8r_1; rw [if_neg (by simp)]
  · intro i hi ih
    apply h1; unfold cAll8r_1; rw [if_pos (by simpa using hi)]
    refine ⟨by rw [nums_len]; simp; omega, by unfold inI; omega, ?_⟩
    rw [← nums_succ]
    exact ih
abbrev cOpen8r : Con := { A := (.cons (.sl (.sl .int)) .nil), R := (.cons (.osl .int) .nil), pre := fun x => okT x.1, F := fun x => (openL x.1, ()) }
def cOpen8r_0  (t : (List (List Int))) (y0 : (List Int)) : Prop :=
  (0 ≤ (List.length t : Int) ∧ (List.length t : Int) ≤ 1000000) ∧ ((okT t ∧ inT t (nums (List.length t : Int).toNat) ∧ (nums (List.length t : Int).toNat).length ≤ 1000000) ∧ (metL t (nums (List.length t : Int).toNat)) = y0)
theorem cOpen8r_law (h : ∀ (t : (List (List Int))), cOpen8r.A.wf (t, ()) → (okT t) → cOpen8r_0  t (openL t)) : ConOK Go.Proofs.Try.prog 61 cOpen8r := by
  refine lawL (Γ := [(105, cAll8r), (71, cMet8r)]) (Θ := Th) (n := 8) [] ⟨cAll8r_ok, cMet8r_ok, trivial⟩ (by kernel_rfl) th_ok mix_ok Go.Proofs.Try.func61 (by kernel_rfl) ?_
  intro x hw hp Λ hC
  have h0 := h x.1 hw hp  
  exact Eq.mpr (by kernel_rfl) h0
theorem cOpen8r_ok : ConOK Go.Proofs.Try.prog 61 cOpen8r := by
  refine cOpen8r_law ?_
  intro t hw hp
  unfold cOpen8r_0
  have := hp.1
  exact ⟨⟨by omega, by omega⟩, ⟨hp, nums_in t, by rw [nums_len]; omega⟩, rfl⟩
abbrev cOpenR : Con := { A := (.cons (.sl (.sl .int)) .nil), R := (.cons (.osl .int) (.cons .int .nil)), pre := fun x => True, F := fun x => ((if validT x.1 = 0 then openL x.1 else []), validT x.1, ()) }
def cOpenR_0  (t : (List (List Int))) (y0 : (List Int)) (y1 : Int) : Prop :=
  True ∧ (if ((validT t) != (0 : Int)) = true then ((validT t) = y1 ∧ ([] : List Int) = y0) else (okT t ∧ ((0 : Int) = y1 ∧ (openL t) = y0)))
theorem cOpenR_law (h : ∀ (t : (List (List Int))), cOpenR.A.wf (t, ()) → cOpenR_0  t (if validT t = 0 then openL t else []) (validT t)) : ConOK Go.Proofs.Try.prog 32 cOpenR := by
  refine lawL (Γ := [(61, cOpen8r), (36, cVal8r)]) (Θ := Th) (n := 12) [] ⟨cOpen8r_ok, cVal8r_ok, trivial⟩ (by kernel_rfl) th_ok mix_ok Go.Proofs.Try.func32 (by kernel_rfl) ?_
  intro x hw hp Λ hC
  have h0 := h x.1 hw  
  exact Eq.mpr (by kernel_rfl) h0
theorem cOpenR_ok : ConOK Go.Proofs.Try.prog 32 cOpenR := by
  refine cOpenR_law ?_
  intro t hw
  unfold cOpenR_0
  refine ⟨trivial, ?_⟩
  by_cases h : validT t = 0
  · rw [if_neg (by simp [h]), if_pos h, h]
    exact ⟨validT_ok.1 h, rfl, rfl⟩
  · rw [if_pos (by simp [h]), if_neg h]
    exact ⟨rfl, rfl⟩
abbrev cRowed8 : Con := { A := (.cons (.sl (.sl .int)) (.cons (.sl .int) .nil)), R := (.cons .int .nil), pre := fun x => x.2.1.length ≤ 1000000, F := fun x => (rowsT x.1 x.2.1, ()) }
def cRowed8_0  (t : (List (List Int))) (rows : (List Int)) (y0 : Int) : Prop :=
  True ∧ (if ((validT t) != (0 : Int)) = true then ((validT t) = y0 ∧ True) else ((0 ≤ (List.length t : Int) ∧ (List.length t : Int) ≤ 1000000 ∧ rows.length ≤ 1000000) ∧ (if (!(isSet8 rows (List.length t : Int).toNat)) = true then ((1 : Int) = y0 ∧ True) else ((0 : Int) = y0 ∧ True))))
theorem cRowed8_law (h : ∀ (t : (List (List Int))) (rows : (List Int)), cRowed8.A.wf (t, rows, ()) → (rows.length ≤ 1000000) → cRowed8_0  t rows (rowsT t rows)) : ConOK Go.Proofs.Try.prog 79 cRowed8 := by
  refine lawL (Γ := [(107, cIsSet8r), (36, cVal8r)]) (Θ := Th) (n := 16) [] ⟨cIsSet8r_ok, cVal8r_ok, trivial⟩ (by kernel_rfl) th_ok mix_ok Go.Proofs.Try.func79 (by kernel_rfl) ?_
  intro x hw hp Λ hC
  have h0 := h x.1 x.2.1 hw hp  
  exact Eq.mpr (by kernel_rfl) h0
theorem cRowed8_ok : ConOK Go.Proofs.Try.prog 79 cRowed8 := by
  refine cRowed8_law ?_
  intro t rows hw hp
  unfold cRowed8_0
  refine ⟨trivial, ?_⟩
  by_cases h : validT t = 0
  · rw [if_neg (by simp [h])]
    have := (validT_ok.1 h).1
    refine ⟨⟨by omega, by omega, hp⟩, ?_⟩
    have hr : rowsT t rows = argErr (isSet8 rows t.length) := by unfold rowsT; rw [if_pos h]
    rw [hr, Int.toNat_natCast]
    cases isSet8 rows t.length
    · rw [if_pos (by rfl)]; exact ⟨rfl, trivial⟩
    · rw [if_neg (by simp)]; exact ⟨rfl, trivial⟩
  · rw [if_pos (by simp [h])]
    refine ⟨?_, trivial⟩
    unfold rowsT; rw [if_neg h]
abbrev cMetR : Con := { A := (.cons (.sl (.sl .int)) (.cons (.sl .int) .nil)), R := (.cons (.osl .int) (.cons .int .nil)), pre := fun x => x.2.1.length ≤ 1000000, F := fun x => ((if rowsT x.1 x.2.1 = 0 then metL x.1 x.2.1 else []), rowsT x.1 x.2.1, ()) }
def cMetR_0  (t : (List (List Int))) (rows : (List Int)) (y0 : (List Int)) (y1 : Int) : Prop :=
  rows.length ≤ 1000000 ∧ (if ((rowsT t rows) != (0 : Int)) = true then ((rowsT t rows) = y1 ∧ ([] : List Int) = y0) else ((okT t ∧ inT t rows ∧ rows.length ≤ 1000000) ∧ ((0 : Int) = y1 ∧ (metL t rows) = y0)))
theorem cMetR_law (h : ∀ (t : (List (List Int))) (rows : (List Int)), cMetR.A.wf (t, rows, ()) → (rows.length ≤ 1000000) → cMetR_0  t rows (if rowsT t rows = 0 then metL t rows else []) (rowsT t rows)) : ConOK Go.Proofs.Try.prog 34 cMetR := by
  refine lawL (Γ := [(71, cMet8r), (79, cRowed8)]) (Θ := Th) (n := 16) [] ⟨cMet8r_ok, cRowed8_ok, trivial⟩ (by kernel_rfl) th_ok mix_ok Go.Proofs.Try.func34 (by kernel_rfl) ?_
  intro x hw hp Λ hC
  have h0 := h x.1 x.2.1 hw hp  
  exact Eq.mpr (by kernel_rfl) h0
theorem cMetR_ok : ConOK Go.Proofs.Try.prog 34 cMetR := by
  refine cMetR_law ?_
  intro t rows hw hp
  unfold cMetR_0
  refine ⟨hp, ?_⟩
  by_cases h : rowsT t rows = 0
  · rw [if_neg (by simp [h]), if_pos h, h]
    exact ⟨⟨(rowsT_ok h).1, (rowsT_ok h).2.1, hp⟩, rfl, rfl⟩
  · rw [if_pos (by simp [h]), if_neg h]
    exact ⟨rfl, rfl⟩
abbrev cCheckCovR : Con := { A := (.cons (.sl (.sl .int)) (.cons (.sl .int) .nil)), R := (.cons .int .nil), pre := fun x => x.2.1.length ≤ 1000000, F := fun x => ((if rowsT x.1 x.2.1 = 0 then (if coverB x.1 x.2.1 then 0 else 7) else rowsT x.1 x.2.1), ()) }
def cCheckCovR_0  (t : (List (List Int))) (rows : (List Int)) (y0 : Int) : Prop :=
  rows.length ≤ 1000000 ∧ (if ((rowsT t rows) != (0 : Int)) = true then ((rowsT t rows) = y0 ∧ True) else ((okT t ∧ inT t rows ∧ rows.length ≤ 1000000) ∧ (okT t ∧ (if ((List.length (metL t rows) : Int) != (List.length (openL t) : Int)) = true then ((7 : Int) = y0 ∧ True) else ((0 : Int) = y0 ∧ True)))))
theorem cCheckCovR_law (h : ∀ (t : (List (List Int))) (rows : (List Int)), cCheckCovR.A.wf (t, rows, ()) → (rows.length ≤ 1000000) → cCheckCovR_0  t rows (if rowsT t rows = 0 then (if coverB t rows then 0 else 7) else rowsT t rows)) : ConOK Go.Proofs.Try.prog 30 cCheckCovR := by
  refine lawL (Γ := [(71, cMet8r), (61, cOpen8r), (79, cRowed8)]) (Θ := Th) (n := 20) [] ⟨cMet8r_ok, cOpen8r_ok, cRowed8_ok, trivial⟩ (by kernel_rfl) th_ok mix_ok Go.Proofs.Try.func30 (by kernel_rfl) ?_
  intro x hw hp Λ hC
  have h0 := h x.1 x.2.1 hw hp  
  exact Eq.mpr (by kernel_rfl) h0
theorem cCheckCovR_ok : ConOK Go.Proofs.Try.prog 30 cCheckCovR := by
  refine cCheckCovR_law ?_
  intro t rows hw hp
  unfold cCheckCovR_0
  refine ⟨hp, ?_⟩
  by_cases h : rowsT t rows = 0
  · rw [if_neg (by simp [h]), if_pos h]
    refine ⟨⟨(rowsT_ok h).1, (rowsT_ok h).2.1, hp⟩, (rowsT_ok h).1, ?_⟩
    unfold coverB
    by_cases hc : (metL t rows).length = (openL t).length
    · rw [if_neg (by simp [hc]), if_pos (by simpa using hc)]
      exact ⟨rfl, trivial⟩
    · rw [if_pos (by simp; omega), if_neg (by simpa using hc)]
      exact ⟨rfl, trivial⟩
  · rw [if_pos (by simp [h]), if_neg h]
    exact ⟨rfl, trivial⟩
abbrev cMeetsL : Con := { A := (.cons (.sl (.sl .int)) (.cons (.sl .int) .nil)), R := (.cons .bool .nil), pre := fun x => True, F := fun x => (true, ()) }
def cMeetsL_0  (t : (List (List Int))) (rows : (List Int)) (y0 : Bool) : Prop :=
  True ∧ (if (longT t) = true then (true = true ∧ (True ∧ (true = y0 ∧ True))) else (True ∧ (if (bif false then true else (decide ((List.length rows : Int) > (50 : Int)))) = true then (True ∧ (true = y0 ∧ True)) else (True ∧ (True ∧ (True ∧ (rows.length ≤ 1000000 ∧ (True ∧ (True ∧ (if ((validT t) == (validT t)) = true then (True ∧ (True ∧ (if (bif true then (decide (((if validT t = 0 then openL t else [])) = ((if validT t = 0 then openL t else [])))) else false) = true then (True ∧ (if (bif true then ((validT t) == (validT t)) else false) = true then (True ∧ (True ∧ (if (bif true then (decide (((if rowsT t rows = 0 then metL t rows else [])) = ((if rowsT t rows = 0 then metL t rows else [])))) else false) = true then (True ∧ (if (bif true then ((rowsT t rows) == (rowsT t rows)) else false) = true then (True ∧ (True ∧ ((bif true then true else false) = y0 ∧ True))) else (false = false ∧ (false = y0 ∧ True)))) else (false = false ∧ (false = false ∧ (false = y0 ∧ True)))))) else (false = false ∧ (false = false ∧ (false = false ∧ (false = y0 ∧ True)))))) else (false = false ∧ (false = false ∧ (false = false ∧ (false = false ∧ (false = y0 ∧ True)))))))) else (false = false ∧ (false = false ∧ (false = false ∧ (false = false ∧ (false = false ∧ (false = y0 ∧ True))))))))))))))))
theorem cMeetsL_law (h : ∀ (t : (List (List Int))) (rows : (List Int)), cMeetsL.A.wf (t, rows, ()) → cMeetsL_0  t rows true) : ConOK Go.Proofs.Try.prog 8 cMeetsL := by
  refine lawL (Γ := [(17, cLong8), (34, cMetR), (33, cMetS), (32, cOpenR), (28, cOpenS), (21, cSameI8), (18, cSane8), (35, cVal8), (36, cVal8r)]) (Θ := Th) (n := 71) [] ⟨cLong8_ok, cMetR_ok, cMetS_ok, cOpenR_ok, cOpenS_ok, cSameI8_ok, cSane8_ok, cVal8_ok, cVal8r_ok, trivial⟩ (by kernel_rfl) th_ok mix_ok Go.Proofs.Try.func8 (by kernel_rfl) ?_
  intro x hw hp Λ hC
  have h0 := h x.1 x.2.1 hw  
  exact Eq.mpr (by kernel_rfl) h0
theorem cMeetsL_ok : ConOK Go.Proofs.Try.prog 8 cMeetsL := by
  refine cMeetsL_law ?_
  intro t rows hw
  unfold cMeetsL_0
  refine ⟨trivial, ?_⟩
  cases hL : longT t
  · rw [if_neg (by simp)]
    refine ⟨trivial, ?_⟩
    by_cases h50 : rows.length > 50
    · rw [if_pos (by simp; omega)]
      exact ⟨trivial, rfl, trivial⟩
    · rw [if_neg (by simp; omega)]
      have h6 : rows.length ≤ 1000000 := by omega
      simp [h6]
  · rw [if_pos rfl]
    exact ⟨rfl, trivial, rfl, trivial⟩
end Go.Tk
/- Plain facts of layer 8: essential and needless rows. No program in sight. -/
set_option linter.unusedSimpArgs false
set_option linter.unusedVariables false
set_option linter.unnecessarySimpa false
namespace Go.Tk
open Go Go.RowKit

theorem filt_le {α : Type} {p q : α → Bool} : ∀ {l : List α}, (∀ x ∈ l, p x = true → q x = true) → (l.filter p).length ≤ (l.filter q).length
  | [], _ => Nat.le_refl _
  | x :: l, h => by
    have ih := filt_le (p := p) (q := q) (l := l) fun y hy => h y (by simp [hy])
    have hx := h x (by simp)
    cases hp : p x
    · cases hq : q x <;> simp [List.filter_cons, hp, hq] <;> omega
    · simp [List.filter_cons, hp, hx hp]; omega
theorem filt_congr {α : Type} {p q : α → Bool} {l : List α} (h : ∀ x ∈ l, p x = q x) : l.filter p = l.filter q := List.filter_congr h
/-- How many are in one, in both, in one alone. -/
theorem cnt5 {α : Type} (A B : α → Bool) : ∀ l : List α, (l.filter fun x => A x || B x).length = (l.filter A).length + (l.filter fun x => !A x && B x).length ∧ (l.filter B).length + (l.filter fun x => A x && !B x).length = (l.filter A).length + (l.filter fun x => !A x && B x).length
  | [] => ⟨rfl, rfl⟩
  | x :: l => by
    obtain ⟨h1, h2⟩ := cnt5 A B l
    cases hA : A x <;> cases hB : B x <;> simp [List.filter_cons, hA, hB] <;> omega

theorem metL_length (t : Ste) (l : List Int) : (metL t l).length = ((List.range (goals8 t)).filter fun g => l.any fun r => hits t r g).length := by
  unfold metL; rw [List.length_map]
theorem met_mono {t : Ste} {l l' : List Int} (h : ∀ r ∈ l, r ∈ l') : (metL t l).length ≤ (metL t l').length := by
  rw [metL_length, metL_length]
  refine filt_le fun g _ hg => ?_
  rw [List.any_eq_true] at hg ⊢
  obtain ⟨r, hr, e⟩ := hg
  exact ⟨r, h r hr, e⟩
theorem met_le_open {t : Ste} {l : List Int} (h : inT t l) : (metL t l).length ≤ (openL t).length := met_mono fun r hr => nums_mem.2 (h r hr)

def valT (t : Ste) (r : Int) (g : Nat) : Int := (t.getD r.toNat []).getD g 0
theorem val01 {t : Ste} (h : okT t) {r : Int} {g : Nat} (hr : 0 ≤ r ∧ r < t.length) (hg : g < goals8 t) : valT t r g = 0 ∨ valT t r g = 1 := by
  unfold valT
  have h1 := okT_row h (i := r.toNat) (by omega)
  exact (h.2.2 _ (mem_getD (d := []) (i := r.toNat) (by omega))).2 _ (mem_getD (by omega))
def cntM (t : Ste) (a b : Int) (k : Nat) : Nat := ((List.range k).filter fun g => decide (valT t a g > valT t b g)).length
def cntL (t : Ste) (a b : Int) (k : Nat) : Nat := ((List.range k).filter fun g => decide (valT t a g < valT t b g)).length
theorem cntM_succ (t : Ste) (a b : Int) (k : Nat) : cntM t a b (k + 1) = if valT t a k > valT t b k then cntM t a b k + 1 else cntM t a b k := by
  unfold cntM
  rw [List.range_succ, List.filter_append, List.length_append]
  by_cases h : valT t a k > valT t b k <;> simp [h]
theorem cntL_succ (t : Ste) (a b : Int) (k : Nat) : cntL t a b (k + 1) = if valT t a k < valT t b k then cntL t a b k + 1 else cntL t a b k := by
  unfold cntL
  rw [List.range_succ, List.filter_append, List.length_append]
  by_cases h : valT t a k < valT t b k <;> simp [h]
theorem cntM_le (t : Ste) (a b : Int) (k : Nat) : cntM t a b k ≤ k := Nat.le_trans (List.length_filter_le ..) (by simp)
theorem cntL_le (t : Ste) (a b : Int) (k : Nat) : cntL t a b k ≤ k := Nat.le_trans (List.length_filter_le ..) (by simp)

theorem met1_length (t : Ste) (a : Int) : (metL t [a]).length = ((List.range (goals8 t)).filter fun g => hits t a g).length := by
  rw [metL_length]
  congr 1
  exact filt_congr fun g _ => by simp
theorem met2_length (t : Ste) (a b : Int) : (metL t [a, b]).length = ((List.range (goals8 t)).filter fun g => hits t a g || hits t b g).length := by
  rw [metL_length]
  congr 1
  exact filt_congr fun g _ => by simp

theorem beats_eq {t : Ste} (h : okT t) {a b : Int} (ha : 0 ≤ a ∧ a < t.length) (hb : 0 ≤ b ∧ b < t.length) : beatsB t a b = (!(a == b) && (decide (cntL t a b (goals8 t) = 0) && (decide (cntM t a b (goals8 t) > 0) || decide (a < b)))) := by
  unfold beatsB
  rw [met1_length, met1_length, met2_length]
  obtain ⟨h1, h2⟩ := cnt5 (hits t a) (hits t b) (List.range (goals8 t))
  have eM : cntM t a b (goals8 t) = ((List.range (goals8 t)).filter fun g => hits t a g && !hits t b g).length := by
    unfold cntM
    congr 1
    refine filt_congr fun g hg => ?_
    rw [List.mem_range] at hg
    have q1 := val01 h ha hg
    have q2 := val01 h hb hg
    unfold hits
    unfold valT at q1 q2 ⊢
    rcases q1 with e | e <;> rcases q2 with e' | e' <;> rw [e, e'] <;> decide
  have eL : cntL t a b (goals8 t) = ((List.range (goals8 t)).filter fun g => !hits t a g && hits t b g).length := by
    unfold cntL
    congr 1
    refine filt_congr fun g hg => ?_
    rw [List.mem_range] at hg
    have q1 := val01 h ha hg
    have q2 := val01 h hb hg
    unfold hits
    unfold valT at q1 q2 ⊢
    rcases q1 with e | e <;> rcases q2 with e' | e' <;> rw [e, e'] <;> decide
  rw [eM, eL]
  generalize ((List.range (goals8 t)).filter fun g => hits t a g || hits t b g).length = ab at h1 ⊢
  generalize ((List.range (goals8 t)).filter fun g => hits t a g && !hits t b g).length = m at h2 ⊢
  generalize ((List.range (goals8 t)).filter fun g => !hits t a g && hits t b g).length = s at h1 h2 ⊢
  generalize ((List.range (goals8 t)).filter fun g => hits t a g).length = x at h1 h2 ⊢
  generalize ((List.range (goals8 t)).filter fun g => hits t b g).length = y at h2 ⊢
  rw [Bool.and_assoc]
  congr 1
  by_cases hs : s = 0
  · have e1 : decide (x = ab) = true := by simp; omega
    have e2 : decide (s = 0) = true := by simp [hs]
    rw [e1, e2]
    congr 2
    rw [decide_eq_decide]; omega
  · have e1 : decide (x = ab) = false := by simp; omega
    have e2 : decide (s = 0) = false := by simp [hs]
    rw [e1, e2]; rfl

theorem beats_sub {t : Ste} {a b : Int} (h : beatsB t a b = true) : a ≠ b ∧ ∀ g, g < goals8 t → hits t b g = true → hits t a g = true := by
  unfold beatsB at h
  simp only [Bool.and_eq_true, Bool.not_eq_true', beq_eq_false_iff_ne, decide_eq_true_eq] at h
  refine ⟨h.1.1, fun g hg hb => ?_⟩
  have h1 := h.1.2
  rw [met1_length, met2_length] at h1
  obtain ⟨h2, _⟩ := cnt5 (hits t a) (hits t b) (List.range (goals8 t))
  have h2 : ((List.range (goals8 t)).filter fun g => hits t a g || hits t b g).length = ((List.range (goals8 t)).filter fun g => hits t a g).length + ((List.range (goals8 t)).filter fun x => !hits t a x && hits t b x).length := h2
  cases ha : hits t a g
  · have hz : ((List.range (goals8 t)).filter fun x => !hits t a x && hits t b x) = [] := List.eq_nil_of_length_eq_zero (by omega)
    have := (List.filter_eq_nil_iff.1 hz) g (List.mem_range.2 hg)
    rw [ha, hb] at this
    simp at this
  · rfl

/-- A row that another one beats is no essential one. -/
theorem beaten_cover {t : Ste} {k r : Int} (hk : 0 ≤ k ∧ k < t.length) (h : beatsB t k r = true) : coverB t (others t r) = true := by
  obtain ⟨hne, hsub⟩ := beats_sub h
  unfold coverB openL
  rw [decide_eq_true_eq, metL_length, metL_length]
  congr 1
  refine filt_congr fun g hg => ?_
  rw [List.mem_range] at hg
  rw [Bool.eq_iff_iff, List.any_eq_true, List.any_eq_true]
  constructor
  · rintro ⟨q, hq, e⟩
    exact ⟨q, (List.mem_filter.1 hq).1, e⟩
  · rintro ⟨q, hq, e⟩
    by_cases hqr : q = r
    · subst hqr
      exact ⟨k, List.mem_filter.2 ⟨nums_mem.2 hk, by simp [hne]⟩, hsub g hg e⟩
    · exact ⟨q, List.mem_filter.2 ⟨hq, by simp [hqr]⟩, e⟩
theorem ess_not_need {t : Ste} {r : Int} (h : r ∈ essT t) : ¬ r ∈ needT t := by
  intro hn
  obtain ⟨_, h1⟩ := List.mem_filter.1 h
  obtain ⟨_, h2⟩ := List.mem_filter.1 hn
  obtain ⟨k, hk, hb⟩ := List.any_eq_true.1 h2
  rw [beaten_cover (nums_mem.1 hk) hb] at h1
  cases h1

def essK (t : Ste) (k : Nat) : List Int := (nums k).filter fun r => !coverB t (others t r)
def needK (t : Ste) (k : Nat) : List Int := (nums k).filter fun r => (nums t.length).any fun k => beatsB t k r
def othK (r : Int) (k : Nat) : List Int := (nums k).filter fun i => !(i == r)
theorem filt_nums_succ (p : Int → Bool) (k : Nat) : (nums (k + 1)).filter p = if p (k : Int) = true then (nums k).filter p ++ [(k : Int)] else (nums k).filter p := by
  rw [nums_succ, List.filter_append]
  cases h : p (k : Int) <;> simp [h]
theorem filt_nums_len (p : Int → Bool) (k : Nat) : ((nums k).filter p).length ≤ k := Nat.le_trans (List.length_filter_le ..) (by rw [nums_len]; exact Nat.le_refl _)
theorem cover_lt {t : Ste} {l : List Int} (h : inT t l) : (!coverB t l) = decide ((metL t l).length < (openL t).length) := by
  have := met_le_open h
  unfold coverB
  by_cases e : (metL t l).length = (openL t).length
  · simp [e]
  · rw [show decide ((metL t l).length = (openL t).length) = false by simpa using e, show decide ((metL t l).length < (openL t).length) = true by simp; omega]; rfl

end Go.Tk
/- Plain facts of layer 8: the best of many sets does not hang on the order in which they are tried. No program in sight. -/
set_option linter.unusedSimpArgs false
set_option linter.unusedVariables false
set_option linter.unnecessarySimpa false
namespace Go.Tk
open Go Go.RowKit

theorem cmpL_refl : ∀ a : List Int, cmpL a a = 0
  | [] => rfl
  | x :: a => by
    show (if x = x then cmpL a a else _) = 0
    rw [if_pos rfl, cmpL_refl a]
theorem cmpL_flip : ∀ a b : List Int, cmpL b a = - cmpL a b
  | [], [] => rfl
  | [], _ :: _ => rfl
  | _ :: _, [] => rfl
  | x :: a, y :: b => by
    show (if y = x then cmpL b a else cmpI y x) = -(if x = y then cmpL a b else cmpI x y)
    by_cases h : x = y
    · rw [if_pos h, if_pos h.symm, cmpL_flip a b]
    · rw [if_neg h, if_neg (fun e => h e.symm)]
      unfold cmpI
      split <;> split <;> (try split) <;> omega
theorem cmpL_zero : ∀ {a b : List Int}, cmpL a b = 0 → a = b
  | [], [], _ => rfl
  | [], _ :: _, h => by cases h
  | _ :: _, [], h => by cases h
  | x :: a, y :: b, h => by
    change (if x = y then cmpL a b else cmpI x y) = 0 at h
    by_cases e : x = y
    · rw [if_pos e] at h
      rw [e, cmpL_zero h]
    · rw [if_neg e] at h
      unfold cmpI at h
      split at h
      · cases h
      · split at h
        · cases h
        · omega
theorem cmpL_trans : ∀ {a b c : List Int}, cmpL a b < 0 → cmpL b c < 0 → cmpL a c < 0
  | [], [], _, h, _ => by cases h
  | [], _ :: _, [], _, h => by change (1 : Int) < 0 at h; omega
  | [], _ :: _, _ :: _, _, _ => by show (-1 : Int) < 0; omega
  | _ :: _, [], _, h, _ => by change (1 : Int) < 0 at h; omega
  | _ :: _, _ :: _, [], _, h => by change (1 : Int) < 0 at h; omega
  | x :: a, y :: b, z :: c, h1, h2 => by
    change (if x = y then cmpL a b else cmpI x y) < 0 at h1
    change (if y = z then cmpL b c else cmpI y z) < 0 at h2
    show (if x = z then cmpL a c else cmpI x z) < 0
    have lt : ∀ {p q : Int}, cmpI p q < 0 → p < q := by
      intro p q h
      unfold cmpI at h
      split at h
      · assumption
      · split at h <;> omega
    have of : ∀ {p q : Int}, p < q → cmpI p q < 0 := by
      intro p q h
      unfold cmpI
      rw [if_pos h]; omega
    by_cases e1 : x = y
    · rw [if_pos e1] at h1
      by_cases e2 : y = z
      · rw [if_pos e2] at h2
        rw [if_pos (e1.trans e2)]
        exact cmpL_trans h1 h2
      · rw [if_neg e2] at h2
        have := lt h2
        rw [if_neg (by omega)]
        exact of (by omega)
    · rw [if_neg e1] at h1
      have l1 := lt h1
      by_cases e2 : y = z
      · rw [if_neg (by omega)]
        exact of (by omega)
      · rw [if_neg e2] at h2
        have := lt h2
        rw [if_neg (by omega)]
        exact of (by omega)

theorem better_iff {a b : List Int} : better a b = true ↔ a.length > b.length ∨ (a.length = b.length ∧ cmpL a b < 0) := by
  unfold better
  simp only [Bool.or_eq_true, Bool.and_eq_true, decide_eq_true_eq]
theorem better_trans {a b c : List Int} (h1 : better a b = true) (h2 : better b c = true) : better a c = true := by
  rw [better_iff] at *
  rcases h1 with h1 | ⟨h1, h1'⟩ <;> rcases h2 with h2 | ⟨h2, h2'⟩
  · left; omega
  · left; omega
  · left; omega
  · exact .inr ⟨by omega, cmpL_trans h1' h2'⟩
theorem better_total {a b : List Int} (h1 : better a b = false) (h2 : better b a = false) : a = b := by
  rw [Bool.eq_false_iff] at h1 h2
  rw [Ne, better_iff] at h1 h2
  have hl : a.length = b.length := by omega
  have e := cmpL_flip a b
  refine cmpL_zero ?_
  have q1 : ¬ cmpL a b < 0 := fun h => h1 (.inr ⟨hl, h⟩)
  have q2 : ¬ cmpL b a < 0 := fun h => h2 (.inr ⟨hl.symm, h⟩)
  omega

def stepB (P : List Int → Bool) (best c : List Int) : List Int := if better c best = true ∧ P c = true then c else best
theorem stepB_spec (P : List Int → Bool) : ∀ (l done : List (List Int)) (best : List Int), (best = [] ∨ (best ∈ done ∧ P best = true)) → (∀ x ∈ done, P x = true → better x best = false) →
    ((l.foldl (stepB P) best = [] ∨ (l.foldl (stepB P) best ∈ done ++ l ∧ P (l.foldl (stepB P) best) = true)) ∧ ∀ x ∈ done ++ l, P x = true → better x (l.foldl (stepB P) best) = false)
  | [], done, best, h1, h2 => by simpa using ⟨h1, h2⟩
  | c :: l, done, best, h1, h2 => by
    rw [show done ++ c :: l = (done ++ [c]) ++ l by simp]
    refine stepB_spec P l (done ++ [c]) (stepB P best c) ?_ ?_
    · unfold stepB
      split
      · rename_i h; exact .inr ⟨by simp, h.2⟩
      · rcases h1 with h1 | ⟨h1, h1'⟩
        · exact .inl h1
        · exact .inr ⟨by simp [h1], h1'⟩
    · intro x hx hp
      unfold stepB
      split
      · rename_i h
        rcases List.mem_append.1 hx with hx | hx
        · have h3 := h2 x hx hp
          rw [Bool.eq_false_iff] at h3 ⊢
          intro h4
          exact h3 (better_trans h4 h.1)
        · rw [List.mem_singleton] at hx
          subst hx
          rw [Bool.eq_false_iff, Ne, better_iff, cmpL_refl]
          omega
      · rename_i h
        rcases List.mem_append.1 hx with hx | hx
        · exact h2 x hx hp
        · rw [List.mem_singleton] at hx
          subst hx
          rw [Bool.eq_false_iff]
          intro h4
          exact h ⟨h4, hp⟩
/-- The best of the good ones is the same, whatever the order. -/
theorem best_same {P Q : List Int → Bool} {l m : List (List Int)} (h1 : ∀ x ∈ l, P x = true → x ∈ m ∧ Q x = true) (h2 : ∀ x ∈ m, Q x = true → x ∈ l ∧ P x = true) : l.foldl (stepB P) [] = m.foldl (stepB Q) [] := by
  obtain ⟨a1, a2⟩ := stepB_spec P l [] [] (.inl rfl) (fun x hx => by simp at hx)
  obtain ⟨b1, b2⟩ := stepB_spec Q m [] [] (.inl rfl) (fun x hx => by simp at hx)
  simp only [List.nil_append] at a1 a2 b1 b2
  generalize l.foldl (stepB P) [] = x at a1 a2 ⊢
  generalize m.foldl (stepB Q) [] = y at b1 b2 ⊢
  have nb : ∀ z : List Int, z ≠ [] → better z [] = true := fun z hz => by
    rw [better_iff]
    left
    exact List.length_pos_iff.2 hz
  rcases a1 with rfl | ⟨a1, a1'⟩
  · rcases b1 with rfl | ⟨b1, b1'⟩
    · rfl
    · obtain ⟨q1, q2⟩ := h2 y b1 b1'
      have := a2 y q1 q2
      by_cases hy : y = []
      · exact hy.symm
      · rw [nb y hy] at this; cases this
  · obtain ⟨p1, p2⟩ := h1 x a1 a1'
    rcases b1 with rfl | ⟨b1, b1'⟩
    · have := b2 x p1 p2
      by_cases hx : x = []
      · exact hx
      · rw [nb x hx] at this; cases this
    · obtain ⟨q1, q2⟩ := h2 y b1 b1'
      exact better_total (b2 x p1 p2) (a2 y q1 q2)

/-! ### All sets are tried -/
theorem setOf_sub (n b : Nat) : (setOf n b).Sublist (nums n) := List.filter_sublist
theorem sub_one {α : Type} {z : List α} {a : α} (h : z.Sublist [a]) : z = [] ∨ z = [a] := by
  cases z with
  | nil => exact .inl rfl
  | cons b z =>
    right
    have h1 := h.length_le
    have h2 : z = [] := List.eq_nil_of_length_eq_zero (by simpa using h1)
    subst h2
    have h3 := List.singleton_sublist.1 h
    rw [List.mem_singleton] at h3
    rw [h3]
theorem setOf_exists : ∀ (n : Nat) (x : List Int), x.Sublist (nums n) → ∃ b, b < 2 ^ n ∧ setOf n b = x
  | 0, x, h => by
    have : x = [] := by simpa [nums] using h
    exact ⟨0, by simp, by rw [this]; rfl⟩
  | n + 1, x, h => by
    rw [nums_succ] at h
    obtain ⟨y, z, rfl, hy, hz⟩ := List.sublist_append_iff.1 h
    obtain ⟨b, hb, e⟩ := setOf_exists n y hy
    have hpow : 2 ^ (n + 1) = 2 ^ n + 2 ^ n := by rw [Nat.pow_succ]; omega
    have hcong : ∀ c : Nat, (∀ k, k < n → c.testBit k = b.testBit k) → setOf (n + 1) c = if c.testBit n = true then y ++ [(n : Int)] else y := by
      intro c hc
      unfold setOf
      rw [filt_nums_succ]
      have : (nums n).filter (fun k => c.testBit k.toNat) = y := by
        rw [← e]
        unfold setOf
        refine List.filter_congr fun k hk => ?_
        have := nums_mem.1 hk
        exact hc _ (by omega)
      rw [this, Int.toNat_natCast]
    rcases sub_one hz with rfl | rfl
    · refine ⟨b, by omega, ?_⟩
      rw [hcong b fun _ _ => rfl, Nat.testBit_lt_two_pow hb]
      simp
    · refine ⟨2 ^ n + b, by omega, ?_⟩
      rw [hcong (2 ^ n + b) fun k hk => Nat.testBit_two_pow_add_gt hk b, if_pos (by rw [Nat.testBit_two_pow_add_eq, Nat.testBit_lt_two_pow hb]; rfl)]

def openP (t : Ste) (g : Int) : Bool := (nums t.length).any fun r => hits t r g.toNat
theorem openL_filter (t : Ste) : openL t = (nums (goals8 t)).filter (openP t) := by
  unfold openL metL nums openP
  rw [List.filter_map]
  congr 1
theorem open_mem {t : Ste} {g : Int} : g ∈ openL t ↔ (0 ≤ g ∧ g < goals8 t) ∧ openP t g = true := by
  rw [openL_filter, List.mem_filter, nums_mem]
theorem sub_open {t : Ste} {x : List Int} : x.Sublist (openL t) ↔ x.Sublist (nums (goals8 t)) ∧ ∀ g ∈ x, g ∈ openL t := by
  constructor
  · intro h
    refine ⟨?_, fun g hg => h.mem hg⟩
    rw [openL_filter] at h
    exact h.trans List.filter_sublist
  · rintro ⟨h1, h2⟩
    have := h1.filter (openP t)
    rw [← openL_filter] at this
    rw [List.filter_eq_self.2 fun g hg => (open_mem.1 (h2 g hg)).2] at this
    exact this
theorem pick_all (t : Ste) : pickO t (nums (openL t).length) = openL t := by
  unfold pickO nums
  rw [List.map_map]
  apply List.ext_getElem?
  intro i
  rw [List.getElem?_map]
  by_cases hi : i < (openL t).length
  · rw [List.getElem?_range hi]
    simp [hi]
  · rw [List.getElem?_eq_none (by simpa using hi), List.getElem?_eq_none (by omega)]; rfl

def goodR (t : Ste) (x : List Int) : Bool := (x.all fun g => decide (g ∈ openL t)) && exclB t x
theorem excl_same (t : Ste) : (setsL (goals8 t)).foldl (stepB (goodR t)) [] = exclT t := by
  have h0 : exclT t = ((setsL (openL t).length).map (pickO t)).foldl (stepB (exclB t)) [] := by
    unfold exclT
    rw [List.foldl_map]
    rfl
  rw [h0]
  refine best_same ?_ ?_
  · intro x hx hg
    unfold setsL at hx
    obtain ⟨b, hb, rfl⟩ := List.mem_map.1 hx
    unfold goodR at hg
    rw [Bool.and_eq_true, List.all_eq_true] at hg
    have hs : (setOf (goals8 t) b).Sublist (openL t) := sub_open.2 ⟨setOf_sub _ _, fun g h => by simpa using hg.1 g h⟩
    refine ⟨?_, hg.2⟩
    rw [← pick_all t] at hs
    obtain ⟨c, hc, e⟩ := List.sublist_map_iff.1 hs
    obtain ⟨b', hb', e'⟩ := setOf_exists _ c hc
    refine List.mem_map.2 ⟨c, ?_, e.symm⟩
    unfold setsL
    exact List.mem_map.2 ⟨b', List.mem_range.2 hb', e'⟩
  · intro x hx hg
    obtain ⟨c, hc, rfl⟩ := List.mem_map.1 hx
    unfold setsL at hc
    obtain ⟨b, hb, rfl⟩ := List.mem_map.1 hc
    have hs : (pickO t (setOf (openL t).length b)).Sublist (openL t) := by
      have := (setOf_sub (openL t).length b).map (fun k => (openL t).getD k.toNat 0)
      have e := pick_all t
      unfold pickO at e ⊢
      rw [e] at this
      exact this
    obtain ⟨h1, h2⟩ := sub_open.1 hs
    obtain ⟨b', hb', e'⟩ := setOf_exists _ _ h1
    refine ⟨?_, ?_⟩
    · unfold setsL
      exact List.mem_map.2 ⟨b', List.mem_range.2 hb', e'⟩
    · unfold goodR
      rw [hg, Bool.and_true, List.all_eq_true]
      exact fun g h => by simpa using h2 g h

end Go.Tk
