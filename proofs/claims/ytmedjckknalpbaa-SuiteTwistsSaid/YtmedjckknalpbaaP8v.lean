/- Plain facts of layer 8: the order with the smallest wait. No program in sight. -/
import Derived.Test.YtmedjckknalpbaaP8x
set_option linter.unusedSimpArgs false
set_option linter.unusedVariables false
set_option linter.unnecessarySimpa false
namespace Go.Tk
open Go Go.RowKit

def unmet (t : Ste) (pre : List Int) (g : Int) : Bool := !(pre.any fun r => hits t r g.toNat)
/-- How many goals are still waited for behind these rows. -/
def leftT (t : Ste) (pre : List Int) : Nat := ((openL t).filter (unmet t pre)).length
def restL (t : Ste) (pre : List Int) : List Int := (nums t.length).filter fun r => !decide (r ∈ pre)
def stepM (st x : List Int × Int) : List Int × Int := if x.2 < st.2 then x else st
def minB : List (List Int × Int) → List Int × Int
  | [] => ([], 0)
  | x :: c => c.foldl stepM x
/-- The first order of the rest with the smallest wait, and this wait. -/
def bestK (t : Ste) : Nat → List Int → List Int × Int
  | 0, _ => ([], 0)
  | k + 1, pre => minB ((restL t pre).map fun r => (r :: (bestK t k (pre ++ [r])).1, (leftT t pre : Int) + (bestK t k (pre ++ [r])).2))
def sumW (t : Ste) : List Int → List Int → Int
  | _, [] => 0
  | pre, r :: o => (leftT t pre : Int) + sumW t (pre ++ [r]) o

theorem filt_split {α : Type} (p : α → Bool) : ∀ l : List α, l.length = (l.filter p).length + (l.filter fun x => !p x).length
  | [] => rfl
  | a :: l => by
    have := filt_split p l
    cases h : p a <;> simp [h] <;> omega
theorem left_met {t : Ste} {pre : List Int} (h : inT t pre) : ((openL t).length : Int) - ((metL t pre).length : Int) = (leftT t pre : Int) := by
  have h1 : (openL t).length = ((openL t).filter fun g => pre.any fun r => hits t r g.toNat).length + (leftT t pre) := by
    unfold leftT unmet
    exact filt_split (fun g : Int => pre.any fun r => hits t r g.toNat) _
  have h2 : ((openL t).filter fun g => pre.any fun r => hits t r g.toNat).length = (metL t pre).length := by
    unfold openL
    rw [metL_length]
    unfold metL
    rw [List.filter_map, List.length_map, List.filter_filter]
    congr 1
    refine filt_congr fun g hg => ?_
    simp only [Function.comp, Bool.and_eq_left_iff_imp]
    rw [show (Int.ofNat g).toNat = g from rfl, Bool.eq_iff_iff]
    constructor
    · intro q
      exact (Bool.and_eq_true _ _ ▸ q).1
    · intro q
      rw [Bool.and_eq_true]
      refine ⟨q, ?_⟩
      obtain ⟨r, hr, e⟩ := List.any_eq_true.1 q
      exact List.any_eq_true.2 ⟨r, nums_mem.2 (h r hr), e⟩
  omega
theorem rest_mem {t : Ste} {pre : List Int} {r : Int} : r ∈ restL t pre ↔ (0 ≤ r ∧ r < t.length) ∧ ¬ r ∈ pre := by
  unfold restL
  rw [List.mem_filter, nums_mem]
  simp
theorem rest_congr {t : Ste} {p q : List Int} (h : ∀ x, x ∈ p ↔ x ∈ q) : restL t p = restL t q := by
  unfold restL
  exact filt_congr fun x _ => by simp [h x]
theorem left_congr {t : Ste} {p q : List Int} (h : ∀ x, x ∈ p ↔ x ∈ q) : leftT t p = leftT t q := by
  unfold leftT
  congr 1
  refine filt_congr fun g _ => ?_
  unfold unmet
  congr 1
  rw [Bool.eq_iff_iff, List.any_eq_true, List.any_eq_true]
  exact ⟨fun ⟨r, hr, e⟩ => ⟨r, (h r).1 hr, e⟩, fun ⟨r, hr, e⟩ => ⟨r, (h r).2 hr, e⟩⟩
theorem best_congr {t : Ste} : ∀ (k : Nat) {p q : List Int}, (∀ x, x ∈ p ↔ x ∈ q) → bestK t k p = bestK t k q
  | 0, _, _, _ => rfl
  | k + 1, p, q, h => by
    unfold bestK
    rw [rest_congr h, left_congr h]
    congr 1
    refine List.map_congr_left fun r _ => ?_
    rw [best_congr k (p := p ++ [r]) (q := q ++ [r]) (fun x => by simp [h x])]

theorem nums_nodup (n : Nat) : (nums n).Nodup := by
  unfold nums
  exact List.Pairwise.map _ (fun a b h e => h (Int.ofNat.inj e)) List.nodup_range
theorem rest_nodup (t : Ste) (pre : List Int) : (restL t pre).Nodup := (nums_nodup _).sublist List.filter_sublist
theorem rest_snoc (t : Ste) (pre : List Int) (r : Int) : restL t (pre ++ [r]) = (restL t pre).filter fun x => !(x == r) := by
  unfold restL
  rw [List.filter_filter]
  refine filt_congr fun x _ => ?_
  rw [Bool.eq_iff_iff]
  simp [not_or, and_comm]
theorem rest_len {t : Ste} {pre : List Int} {r : Int} (h : r ∈ restL t pre) : (restL t (pre ++ [r])).length + 1 = (restL t pre).length := by
  rw [rest_snoc]
  have h1 := filt_split (fun x => x == r) (restL t pre)
  have h2 : ((restL t pre).filter fun x => x == r).length = 1 := by
    rw [← List.countP_eq_length_filter]
    have := List.Nodup.count (rest_nodup t pre) (a := r)
    rw [if_pos h] at this
    exact this
  omega

/-! ### The first least one of a list -/
theorem fold_le : ∀ (c : List (List Int × Int)) (st : List Int × Int), (c.foldl stepM st).2 ≤ st.2 ∧ ∀ x ∈ c, (c.foldl stepM st).2 ≤ x.2
  | [], st => ⟨Int.le_refl _, by simp⟩
  | a :: c, st => by
    obtain ⟨h1, h2⟩ := fold_le c (stepM st a)
    have h3 : (stepM st a).2 ≤ st.2 ∧ (stepM st a).2 ≤ a.2 := by unfold stepM; split <;> omega
    rw [List.foldl_cons]
    refine ⟨by omega, fun x hx => ?_⟩
    rcases List.mem_cons.1 hx with rfl | hx
    · omega
    · exact h2 x hx
theorem fold_mem : ∀ (c : List (List Int × Int)) (st : List Int × Int), c.foldl stepM st = st ∨ c.foldl stepM st ∈ c
  | [], st => .inl rfl
  | a :: c, st => by
    rw [List.foldl_cons]
    rcases fold_mem c (stepM st a) with h | h
    · rw [h]; unfold stepM; split
      · exact .inr (by simp)
      · exact .inl rfl
    · exact .inr (by simp [h])
theorem fold_min : ∀ (c : List (List Int × Int)) (st : List Int × Int), c ≠ [] → c.foldl stepM st = stepM st (minB c)
  | [], _, h => absurd rfl h
  | [a], st, _ => rfl
  | a :: b :: c, st, _ => by
    have h1 := fold_min (b :: c) (stepM st a) (by simp)
    have h2 := fold_min (b :: c) a (by simp)
    have h3 : minB (a :: b :: c) = (b :: c).foldl stepM a := rfl
    rw [List.foldl_cons, h1, h3, h2]
    generalize minB (b :: c) = m
    unfold stepM
    by_cases g1 : a.2 < st.2
    · rw [if_pos g1]
      by_cases g2 : m.2 < a.2
      · rw [if_pos g2, if_pos (by omega)]
      · rw [if_neg g2, if_pos g1]
    · rw [if_neg g1]
      by_cases g2 : m.2 < a.2
      · rw [if_pos g2]
      · rw [if_neg g2, if_neg g1, if_neg (by omega)]
theorem minB_mem {c : List (List Int × Int)} (h : c ≠ []) : minB c ∈ c := by
  cases c with
  | nil => exact absurd rfl h
  | cons a c =>
    show c.foldl stepM a ∈ a :: c
    rcases fold_mem c a with e | e
    · rw [e]; simp
    · simp [e]
theorem minB_le {c : List (List Int × Int)} {x : List Int × Int} (h : x ∈ c) : (minB c).2 ≤ x.2 := by
  cases c with
  | nil => cases h
  | cons a c =>
    obtain ⟨h1, h2⟩ := fold_le c a
    rcases List.mem_cons.1 h with rfl | h
    · exact h1
    · exact h2 x h
theorem minB_first {a : List Int × Int} {c : List (List Int × Int)} (h : a.2 ≤ (minB (a :: c)).2) : minB (a :: c) = a := by
  cases c with
  | nil => rfl
  | cons b c =>
    have h1 : minB (a :: b :: c) = stepM a (minB (b :: c)) := fold_min (b :: c) a (by simp)
    rw [h1] at h ⊢
    unfold stepM at h ⊢
    split
    · rename_i g
      rw [if_pos g] at h; omega
    · rfl
/-- Behind some rows, with what they waited. -/
def shB (pre : List Int) (sum : Int) (x : List Int × Int) : List Int × Int := (pre ++ x.1, sum + x.2)
theorem stepM_sh (pre : List Int) (sum : Int) (a x : List Int × Int) : stepM (shB pre sum a) (shB pre sum x) = shB pre sum (stepM a x) := by
  unfold stepM shB
  by_cases h : x.2 < a.2
  · rw [if_pos h, if_pos (by simp; omega)]
  · rw [if_neg h, if_neg (by simp; omega)]
theorem fold_sh (pre : List Int) (sum : Int) : ∀ (c : List (List Int × Int)) (a : List Int × Int), (c.map (shB pre sum)).foldl stepM (shB pre sum a) = shB pre sum (c.foldl stepM a)
  | [], _ => rfl
  | x :: c, a => by
    rw [List.map_cons, List.foldl_cons, List.foldl_cons, stepM_sh, fold_sh pre sum c]
theorem minB_sh (pre : List Int) (sum : Int) {c : List (List Int × Int)} (h : c ≠ []) : minB (c.map (shB pre sum)) = shB pre sum (minB c) := by
  cases c with
  | nil => exact absurd rfl h
  | cons a c => exact fold_sh pre sum c a

/-! ### What the search does -/
/-- What a call of the search makes of the best order and its wait. -/
def growT (t : Ste) (k : Nat) (pre : List Int) (sum : Int) (st : List Int × Int) : List Int × Int := stepM st (shB pre sum (bestK t k pre))
theorem best_pos (t : Ste) : ∀ (k : Nat) (pre : List Int), 0 ≤ (bestK t k pre).2
  | 0, _ => Int.le_refl _
  | k + 1, pre => by
    unfold bestK
    by_cases h : (restL t pre).map (fun r => (r :: (bestK t k (pre ++ [r])).1, (leftT t pre : Int) + (bestK t k (pre ++ [r])).2)) = []
    · rw [h]; exact Int.le_refl _
    · obtain ⟨r, _, e⟩ := List.mem_map.1 (minB_mem h)
      rw [← e]
      have := best_pos t k (pre ++ [r])
      show 0 ≤ _ + _
      omega
theorem best_left (t : Ste) {k : Nat} {pre : List Int} (h : restL t pre ≠ []) : (leftT t pre : Int) ≤ (bestK t (k + 1) pre).2 := by
  unfold bestK
  have hne : (restL t pre).map (fun r => (r :: (bestK t k (pre ++ [r])).1, (leftT t pre : Int) + (bestK t k (pre ++ [r])).2)) ≠ [] := by simpa using h
  obtain ⟨r, _, e⟩ := List.mem_map.1 (minB_mem hne)
  rw [← e]
  have := best_pos t k (pre ++ [r])
  show _ ≤ _ + _
  omega
theorem grow_cut {t : Ste} {k : Nat} {pre : List Int} {sum : Int} {st : List Int × Int} (hr : restL t pre ≠ []) (h : st.2 ≤ sum + leftT t pre) : growT t (k + 1) pre sum st = st := by
  have := best_left t (k := k) hr
  unfold growT stepM shB
  rw [if_neg (by simp; omega)]
theorem grow_end (t : Ste) (pre : List Int) (sum : Int) (st : List Int × Int) : growT t 0 pre sum st = if sum < st.2 then (pre, sum) else st := by
  unfold growT stepM shB bestK
  simp
/-- The loop over the rows. -/
def growK (t : Ste) (k : Nat) (pre : List Int) (sum : Int) (st : List Int × Int) (i : Nat) : List Int × Int :=
  ((nums i).filter fun r => !decide (r ∈ pre)).foldl (fun s r => growT t k (pre ++ [r]) (sum + leftT t pre) s) st
theorem growK_succ (t : Ste) (k : Nat) (pre : List Int) (sum : Int) (st : List Int × Int) (i : Nat) : growK t k pre sum st (i + 1) = if (i : Int) ∈ pre then growK t k pre sum st i else growT t k (pre ++ [(i : Int)]) (sum + leftT t pre) (growK t k pre sum st i) := by
  unfold growK
  rw [nums_succ, List.filter_append, List.foldl_append]
  by_cases h : (i : Int) ∈ pre <;> simp [h]
theorem growK_all {t : Ste} {k : Nat} {pre : List Int} {sum : Int} {st : List Int × Int} (hr : restL t pre ≠ []) : growK t k pre sum st t.length = growT t (k + 1) pre sum st := by
  have h1 : growK t k pre sum st t.length = ((restL t pre).map fun r => shB pre sum (r :: (bestK t k (pre ++ [r])).1, (leftT t pre : Int) + (bestK t k (pre ++ [r])).2)).foldl stepM st := by
    rw [List.foldl_map]
    unfold growK restL
    congr 1
    funext s r
    unfold growT shB
    simp only [List.append_assoc, List.cons_append, List.nil_append]
    rw [Int.add_assoc]
  have hne : (restL t pre).map (fun r => (r :: (bestK t k (pre ++ [r])).1, (leftT t pre : Int) + (bestK t k (pre ++ [r])).2)) ≠ [] := by simpa using hr
  have h2 : ((restL t pre).map fun r => shB pre sum (r :: (bestK t k (pre ++ [r])).1, (leftT t pre : Int) + (bestK t k (pre ++ [r])).2)) = ((restL t pre).map fun r => (r :: (bestK t k (pre ++ [r])).1, (leftT t pre : Int) + (bestK t k (pre ++ [r])).2)).map (shB pre sum) := by
    rw [List.map_map]; rfl
  rw [h1, h2, fold_min _ _ (by simpa using hne), minB_sh _ _ hne]
  rfl

/-! ### The best order is one, and none waits less -/
theorem rest_erase {t : Ste} {pre : List Int} {r : Int} : restL t (pre ++ [r]) = (restL t pre).erase r := by
  rw [rest_snoc, List.Nodup.erase_eq_filter (rest_nodup t pre)]
  rfl
theorem best_perm {t : Ste} : ∀ (k : Nat) (pre : List Int), (restL t pre).length = k → (bestK t k pre).1.Perm (restL t pre) ∧ (bestK t k pre).2 = sumW t pre (bestK t k pre).1
  | 0, pre, h => by
    rw [List.length_eq_zero_iff.1 h]
    exact ⟨.nil, rfl⟩
  | k + 1, pre, h => by
    have hne : (restL t pre).map (fun r => (r :: (bestK t k (pre ++ [r])).1, (leftT t pre : Int) + (bestK t k (pre ++ [r])).2)) ≠ [] := by
      intro e
      rw [List.map_eq_nil_iff] at e
      rw [e] at h; simp at h
    obtain ⟨r, hr, e⟩ := List.mem_map.1 (minB_mem hne)
    have h1 := rest_len hr
    obtain ⟨i1, i2⟩ := best_perm (t := t) k (pre ++ [r]) (by omega)
    have e2 : bestK t (k + 1) pre = (r :: (bestK t k (pre ++ [r])).1, (leftT t pre : Int) + (bestK t k (pre ++ [r])).2) := e.symm
    rw [e2]
    constructor
    · show (r :: (bestK t k (pre ++ [r])).1).Perm _
      rw [rest_erase] at i1
      exact (i1.cons r).trans (List.perm_cons_erase hr).symm
    · show _ + _ = (leftT t pre : Int) + sumW t (pre ++ [r]) _
      rw [← i2]
theorem best_least {t : Ste} : ∀ (k : Nat) (pre o : List Int), (restL t pre).length = k → o.Perm (restL t pre) → (bestK t k pre).2 ≤ sumW t pre o
  | 0, pre, o, h, hp => by
    rw [List.length_eq_zero_iff.1 h] at hp
    rw [hp.eq_nil]
    exact Int.le_refl _
  | k + 1, pre, [], h, hp => by
    rw [← hp.nil_eq] at h; simp at h
  | k + 1, pre, r :: o, h, hp => by
    have hr : r ∈ restL t pre := hp.subset (by simp)
    have h1 := rest_len hr
    have h2 : o.Perm (restL t (pre ++ [r])) := by
      rw [rest_erase]
      exact List.Perm.cons_inv (hp.trans (List.perm_cons_erase hr))
    have i1 := best_least (t := t) k (pre ++ [r]) o (by omega) h2
    have h3 : (bestK t (k + 1) pre).2 ≤ (leftT t pre : Int) + (bestK t k (pre ++ [r])).2 :=
      minB_le (x := (r :: (bestK t k (pre ++ [r])).1, (leftT t pre : Int) + (bestK t k (pre ++ [r])).2)) (List.mem_map.2 ⟨r, hr, rfl⟩)
    show _ ≤ (leftT t pre : Int) + sumW t (pre ++ [r]) o
    omega
theorem best_first {t : Ste} : ∀ (k : Nat) (pre : List Int), (restL t pre).length = k → (bestK t k pre).2 = sumW t pre (restL t pre) → (bestK t k pre).1 = restL t pre
  | 0, pre, h, _ => by
    rw [List.length_eq_zero_iff.1 h]; rfl
  | k + 1, pre, h, he => by
    cases hrest : restL t pre with
    | nil => rw [hrest] at h; simp at h
    | cons r rs =>
      have hr : r ∈ restL t pre := by rw [hrest]; simp
      have h1 := rest_len hr
      have h2 : restL t (pre ++ [r]) = rs := by
        rw [rest_erase, hrest, List.erase_cons_head]
      have i1 := best_least (t := t) k (pre ++ [r]) rs (by omega) (by rw [h2])
      have e1 : bestK t (k + 1) pre = minB ((r :: (bestK t k (pre ++ [r])).1, (leftT t pre : Int) + (bestK t k (pre ++ [r])).2) :: rs.map fun r => (r :: (bestK t k (pre ++ [r])).1, (leftT t pre : Int) + (bestK t k (pre ++ [r])).2)) := by
        show minB ((restL t pre).map _) = _
        rw [hrest]; rfl
      rw [hrest] at he
      have he : (bestK t (k + 1) pre).2 = (leftT t pre : Int) + sumW t (pre ++ [r]) rs := he
      have hx : ((leftT t pre : Int) + (bestK t k (pre ++ [r])).2) ≤ (bestK t (k + 1) pre).2 := by omega
      have e2 := minB_first (a := (r :: (bestK t k (pre ++ [r])).1, (leftT t pre : Int) + (bestK t k (pre ++ [r])).2)) (c := rs.map fun r => (r :: (bestK t k (pre ++ [r])).1, (leftT t pre : Int) + (bestK t k (pre ++ [r])).2)) (by rw [← e1]; exact hx)
      rw [← e1] at e2
      have e3 : (bestK t k (pre ++ [r])).2 = sumW t (pre ++ [r]) rs := by
        rw [e2] at he
        have he : (leftT t pre : Int) + (bestK t k (pre ++ [r])).2 = (leftT t pre : Int) + sumW t (pre ++ [r]) rs := he
        omega
      have i2 := best_first (t := t) k (pre ++ [r]) (by omega) (by rw [h2]; exact e3)
      rw [e2]
      show r :: (bestK t k (pre ++ [r])).1 = _
      rw [i2, h2]

/-! ### The wait of an order -/
theorem sum_hit {t : Ste} {r : Int} : ∀ (l : List Int) (f : Int → Int), (∀ g, 0 ≤ f g) → (l.map fun g => if hits t r g.toNat = true then (1 : Int) else 1 + f g).sum = l.length + ((l.filter fun g => !hits t r g.toNat).map f).sum
  | [], f, _ => rfl
  | g :: l, f, hf => by
    have i := sum_hit (t := t) (r := r) l f hf
    rw [List.map_cons, List.sum_cons, i]
    cases h : hits t r g.toNat <;> simp [h] <;> omega
theorem idx_cons {α : Type} (p : α → Bool) (a : α) (l : List α) (h : p a = true ∨ l.any p = true) : idxF p (a :: l) = if p a = true then 0 else 1 + idxF p l := by
  unfold idxF
  rw [List.findIdx?_cons]
  cases hp : p a
  · have hl : l.any p = true := by
      rcases h with h | h
      · rw [hp] at h; cases h
      · exact h
    cases hf : l.findIdx? p with
    | none =>
      rw [List.findIdx?_eq_none_iff] at hf
      obtain ⟨x, hx, e⟩ := List.any_eq_true.1 hl
      rw [hf x hx] at e; cases e
    | some i => simp; omega
  · simp
theorem wait_sum {t : Ste} : ∀ (o pre : List Int), (∀ g ∈ (openL t).filter (unmet t pre), o.any (fun r => hits t r g.toNat) = true) → (((openL t).filter (unmet t pre)).map (waitG t o)).sum = sumW t pre o
  | [], pre, h => by
    cases hl : (openL t).filter (unmet t pre) with
    | nil => rfl
    | cons g l =>
      have := h g (by rw [hl]; simp)
      simp at this
  | r :: o, pre, h => by
    have h1 : (openL t).filter (unmet t (pre ++ [r])) = ((openL t).filter (unmet t pre)).filter fun g => !hits t r g.toNat := by
      rw [List.filter_filter]
      refine filt_congr fun g _ => ?_
      unfold unmet
      rw [List.any_append]
      cases (pre.any fun r => hits t r g.toNat) <;> simp
    have i := wait_sum o (pre ++ [r]) (by
      intro g hg
      rw [h1, List.mem_filter] at hg
      have := h g hg.1
      rw [List.any_cons] at this
      have h2 := hg.2
      cases hh : hits t r g.toNat
      · rw [hh] at this; simpa using this
      · rw [hh] at h2; simp at h2)
    show _ = (leftT t pre : Int) + sumW t (pre ++ [r]) o
    rw [← i, h1]
    unfold leftT
    rw [← sum_hit (t := t) (r := r) _ (waitG t o) (fun g => by unfold waitG; have := (idxF_bound (fun r => hits t r g.toNat) o).1; omega)]
    congr 1
    refine List.map_congr_left fun g hg => ?_
    have := h g hg
    rw [List.any_cons, Bool.or_eq_true] at this
    unfold waitG
    rw [idx_cons _ _ _ this]
    split <;> omega
theorem open_hit {t : Ste} {g : Int} (h : g ∈ openL t) : (nums t.length).any (fun r => hits t r g.toNat) = true := by
  unfold openL metL at h
  simp only [List.mem_map, List.mem_filter, List.mem_range, Int.ofNat_eq_natCast] at h
  obtain ⟨a, ⟨_, h1⟩, rfl⟩ := h
  exact h1
theorem any_perm {α : Type} {p : α → Bool} {a b : List α} (h : a.Perm b) : a.any p = b.any p := by
  rw [Bool.eq_iff_iff, List.any_eq_true, List.any_eq_true]
  exact ⟨fun ⟨x, hx, e⟩ => ⟨x, h.mem_iff.1 hx, e⟩, fun ⟨x, hx, e⟩ => ⟨x, h.mem_iff.2 hx, e⟩⟩
theorem unmet_nil (t : Ste) : (openL t).filter (unmet t []) = openL t := by
  rw [List.filter_eq_self]
  intro g _
  rfl
theorem waitL_sum {t : Ste} {o : List Int} (h : o.Perm (nums t.length)) : waitL t o = sumW t [] o := by
  rw [← wait_sum o [], unmet_nil]
  · rfl
  · intro g hg
    rw [unmet_nil] at hg
    rw [any_perm h]
    exact open_hit hg
theorem rest_nil (t : Ste) : restL t [] = nums t.length := by
  unfold restL
  rw [List.filter_eq_self]
  simp
/-- The answer of Best. -/
def bestT (t : Ste) : List Int × Int := bestK t t.length []
theorem rest_nil_len (t : Ste) : (restL t []).length = t.length := by rw [rest_nil, nums_len]
theorem bestT_perm (t : Ste) : (bestT t).1.Perm (nums t.length) := by
  have := (best_perm t.length [] (rest_nil_len t)).1
  rwa [rest_nil] at this
theorem bestT_wait (t : Ste) : (bestT t).2 = waitL t (bestT t).1 := by
  rw [waitL_sum (bestT_perm t)]
  exact (best_perm t.length [] (rest_nil_len t)).2
theorem bestT_least {t : Ste} {o : List Int} (h : o.Perm (nums t.length)) : (bestT t).2 ≤ waitL t o := by
  rw [waitL_sum h]
  exact best_least t.length [] o (rest_nil_len t) (by rw [rest_nil]; exact h)
theorem grow_best (t : Ste) : growT t t.length [] 0 (nums t.length, waitL t (nums t.length)) = bestT t := by
  have h1 := bestT_least (t := t) (o := nums t.length) (.refl _)
  unfold growT shB
  show stepM _ (([] : List Int) ++ (bestT t).1, (0 : Int) + (bestT t).2) = _
  rw [List.nil_append, Int.zero_add]
  unfold stepM
  split
  · rfl
  · rename_i h2
    have h2 : ¬ (bestT t).2 < waitL t (nums t.length) := h2
    have h3 : (bestT t).2 = waitL t (nums t.length) := by omega
    have h4 : (bestT t).1 = nums t.length := by
      have := best_first t.length [] (rest_nil_len t) (by rw [rest_nil, ← waitL_sum (.refl _)]; exact h3)
      rw [rest_nil] at this
      exact this
    rw [← h3, ← h4]
end Go.Tk
