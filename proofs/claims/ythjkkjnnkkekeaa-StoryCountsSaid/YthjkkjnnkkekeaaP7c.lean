/- Plain facts: how many orders keep the needs, and the last of them (layer 7). No program in sight. -/
import Derived.Test.YthjkkjnnkkekeaaC7p
set_option linter.unusedSimpArgs false
set_option linter.unusedVariables false
set_option linter.unnecessarySimpa false
namespace Go.Tk
open Go Go.RowKit

/-! ### Sums -/
def sumN (f : Nat → Nat) : Nat → Nat
  | 0 => 0
  | n + 1 => sumN f n + f n
theorem sumN_congr {f g : Nat → Nat} : ∀ {N}, (∀ m, m < N → f m = g m) → sumN f N = sumN g N
  | 0, _ => rfl
  | n + 1, h => by unfold sumN; rw [sumN_congr (N := n) fun m hm => h m (by omega), h n (by omega)]
theorem sumN_upd2 {f g : Nat → Nat} {n : Nat} : ∀ {N}, n < N → (∀ m, m < N → m ≠ n → f m = g m) → sumN g N + f n = sumN f N + g n
  | 0, h, _ => by omega
  | N + 1, h, h1 => by
    unfold sumN
    by_cases e : n = N
    · subst e
      rw [sumN_congr (f := g) (g := f) fun m hm => (h1 m (by omega) (by omega)).symm]; omega
    · have := sumN_upd2 (N := N) (by omega) (fun m hm => h1 m (by omega))
      rw [h1 N (by omega) (by omega)]; omega
theorem sumN_le {f : Nat → Nat} {B : Nat} : ∀ {N}, (∀ m, m < N → f m ≤ B) → sumN f N ≤ N * B
  | 0, _ => by simp [sumN]
  | n + 1, h => by
    unfold sumN
    have := sumN_le (N := n) fun m hm => h m (by omega)
    have := h n (by omega)
    rw [Nat.add_mul, Nat.one_mul]; omega
theorem sumN_mono {f g : Nat → Nat} : ∀ {N}, (∀ m, m < N → f m ≤ g m) → sumN f N ≤ sumN g N
  | 0, _ => Nat.le_refl _
  | n + 1, h => by
    unfold sumN
    have := sumN_mono (N := n) fun m hm => h m (by omega)
    have := h n (by omega)
    omega
theorem sumN_one {f : Nat → Nat} {a : Nat} : ∀ {N}, a < N → f a ≤ sumN f N
  | 0, h => by omega
  | n + 1, h => by
    unfold sumN
    by_cases e : a = n
    · subst e; omega
    · have := sumN_one (f := f) (N := n) (a := a) (by omega); omega
theorem sumN_two {f : Nat → Nat} {a b : Nat} (hab : a < b) : ∀ {N}, b < N → f a + f b ≤ sumN f N
  | 0, h => by omega
  | n + 1, h => by
    unfold sumN
    by_cases e : b = n
    · subst e
      have := sumN_one (f := f) (N := b) (a := a) hab; omega
    · have := sumN_two (f := f) hab (N := n) (by omega); omega
theorem sumN_pos {f : Nat → Nat} : ∀ {N}, 0 < sumN f N → ∃ m, m < N ∧ 0 < f m
  | 0, h => by simp [sumN] at h
  | n + 1, h => by
    unfold sumN at h
    by_cases e : 0 < f n
    · exact ⟨n, by omega, e⟩
    · obtain ⟨m, h1, h2⟩ := sumN_pos (f := f) (N := n) (by omega)
      exact ⟨m, by omega, h2⟩
theorem sumN_zero {f : Nat → Nat} : ∀ {N}, (∀ m, m < N → f m = 0) → sumN f N = 0
  | 0, _ => rfl
  | n + 1, h => by unfold sumN; rw [sumN_zero (N := n) fun m hm => h m (by omega), h n (by omega)]
theorem sumN_single {f : Nat → Nat} {a N : Nat} (ha : a < N) (h : ∀ m, m < N → m ≠ a → f m = 0) : sumN f N = f a := by
  have := sumN_upd2 (f := fun _ => 0) (g := f) ha (fun m hm e => (h m hm e).symm)
  rw [sumN_zero (f := fun _ => 0) fun _ _ => rfl] at this; omega

/-! ### Bits -/
def pc8 (t : Nat) : Nat := sumN (fun m => if t.testBit m then 1 else 0) 8
theorem bit_off : ∀ t, t < 256 → ∀ n, n < 8 → t.testBit n = true → t - 2 ^ n < t ∧ (t - 2 ^ n).testBit n = false ∧ (t - 2 ^ n) ||| 2 ^ n = t ∧ pc8 (t - 2 ^ n) + 1 = pc8 t := by decide +kernel
theorem bit_on : ∀ t, t < 256 → ∀ n, n < 8 → t.testBit n = false → (t ||| 2 ^ n) - 2 ^ n = t ∧ t < (t ||| 2 ^ n) ∧ (t ||| 2 ^ n) < 256 := by decide +kernel
theorem pc8_le : ∀ t, t < 256 → pc8 t ≤ 8 := by decide +kernel
theorem bit_or (t n m : Nat) : (t ||| 2 ^ n).testBit m = (t.testBit m || decide (n = m)) := by
  rw [Nat.testBit_or, Nat.testBit_two_pow]
theorem pow_le8 {N : Nat} (h : N ≤ 8) : 2 ^ N ≤ 256 := by
  have := Nat.pow_le_pow_right (n := 2) (by omega) h
  simpa using this
theorem or_lt {t n N : Nat} (ht : t < 2 ^ N) (hn : n < N) : t ||| 2 ^ n < 2 ^ N := Nat.or_lt_two_pow ht (Nat.pow_lt_pow_right (by omega) hn)

/-! ### What can come next -/
def frD (h : List (List Edt)) (t n : Nat) : Bool := !(t.testBit n) && (List.range n).all fun k => !(tch h k n) || t.testBit k
def frA (h : List (List Edt)) (t n : Nat) : Bool := !(t.testBit n) && (List.range h.length).all fun k => !(need h n k) || t.testBit k
def frM (all : List (List Bool)) (t n : Nat) : Bool := !(t.testBit n) && (List.range all.length).all fun k => !((all.getD n []).getD k false) || t.testBit k
theorem frM_mat (h : List (List Edt)) (t : Nat) {n : Nat} (hn : n < h.length) : frM (matN h) t n = frA h t n := by
  unfold frM frA
  rw [matN_len]
  congr 2; funext k
  rw [matN_get h hn]
theorem frD_iff {h : List (List Edt)} {t n : Nat} : frD h t n = true ↔ t.testBit n = false ∧ ∀ k, k < n → tch h k n = true → t.testBit k = true := by
  unfold frD
  simp only [Bool.and_eq_true, Bool.not_eq_true', List.all_eq_true, List.mem_range, Bool.or_eq_true]
  constructor
  · rintro ⟨h1, h2⟩
    exact ⟨h1, fun k hk ht => (h2 k hk).resolve_left (by rw [ht]; simp)⟩
  · rintro ⟨h1, h2⟩
    refine ⟨h1, fun k hk => ?_⟩
    cases e : tch h k n
    · exact .inl rfl
    · exact .inr (h2 k hk e)
theorem frA_iff {h : List (List Edt)} {t n : Nat} (hn : n < h.length) : frA h t n = true ↔ t.testBit n = false ∧ ∀ k, need h n k = true → t.testBit k = true := by
  unfold frA
  simp only [Bool.and_eq_true, Bool.not_eq_true', List.all_eq_true, List.mem_range, Bool.or_eq_true]
  constructor
  · rintro ⟨h1, h2⟩
    exact ⟨h1, fun k ht => (h2 k (by have := need_lt ht; omega)).resolve_left (by rw [ht]; simp)⟩
  · rintro ⟨h1, h2⟩
    refine ⟨h1, fun k hk => ?_⟩
    cases e : need h n k
    · exact .inl rfl
    · exact .inr (h2 k e)
def Clos (h : List (List Edt)) (t : Nat) : Prop := ∀ m, t.testBit m = true → ∀ k, k < m → tch h k m = true → t.testBit k = true
theorem fr_same {h : List (List Edt)} {t n : Nat} (c : Clos h t) (hn : n < h.length) : frD h t n = frA h t n := by
  rw [Bool.eq_iff_iff, frD_iff, frA_iff hn]
  constructor
  · rintro ⟨h1, h2⟩
    exact ⟨h1, fun k hk => need_closed (S := fun k => t.testBit k = true) (fun j hj k hk ht => c j hj k hk ht) hk h2⟩
  · rintro ⟨h1, h2⟩
    exact ⟨h1, fun k hk ht => h2 k (need_dir hk ht)⟩
theorem Clos.on {h : List (List Edt)} {t n : Nat} (c : Clos h t) (f : frD h t n = true) : Clos h (t ||| 2 ^ n) := by
  intro m hm k hk ht
  rw [bit_or, Bool.or_eq_true] at hm ⊢
  rcases hm with hm | hm
  · exact .inl (c m hm k hk ht)
  · simp at hm
    subst hm
    exact .inl ((frD_iff.1 f).2 k hk ht)

/-! ### How many orders -/
def cntF (fr : Nat → Nat → Bool) (N : Nat) : Nat → Nat → Nat
  | 0, _ => 0
  | f + 1, t => if t = 0 then 1 else sumN (fun n => if t.testBit n = true ∧ fr (t - 2 ^ n) n = true then cntF fr N f (t - 2 ^ n) else 0) N
def cnt (fr : Nat → Nat → Bool) (N t : Nat) : Nat := cntF fr N (t + 1) t
theorem cntF_any {fr : Nat → Nat → Bool} {N : Nat} (hN : N ≤ 8) : ∀ f g t, t < 256 → t < f → t < g → cntF fr N f t = cntF fr N g t
  | 0, _, _, _, hf, _ => by omega
  | _ + 1, 0, _, _, _, hg => by omega
  | f + 1, g + 1, t, ht, hf, hg => by
    unfold cntF
    by_cases e : t = 0
    · rw [if_pos e, if_pos e]
    · rw [if_neg e, if_neg e]
      refine sumN_congr fun n hn => ?_
      by_cases c : t.testBit n = true ∧ fr (t - 2 ^ n) n = true
      · have := bit_off t ht n (by omega) c.1
        rw [if_pos c, if_pos c]
        exact cntF_any hN f g _ (by omega) (by omega) (by omega)
      · rw [if_neg c, if_neg c]
theorem cnt_eq {fr : Nat → Nat → Bool} {N t : Nat} (hN : N ≤ 8) (ht : t < 256) (h0 : t ≠ 0) : cnt fr N t = sumN (fun n => if t.testBit n = true ∧ fr (t - 2 ^ n) n = true then cnt fr N (t - 2 ^ n) else 0) N := by
  show cntF fr N (t + 1) t = _
  rw [cntF, if_neg h0]
  refine sumN_congr fun n hn => ?_
  by_cases c : t.testBit n = true ∧ fr (t - 2 ^ n) n = true
  · have := bit_off t ht n (by omega) c.1
    rw [if_pos c, if_pos c]
    exact cntF_any hN _ _ _ (by omega) (by omega) (by omega)
  · rw [if_neg c, if_neg c]
theorem cnt_zero (fr : Nat → Nat → Bool) (N : Nat) : cnt fr N 0 = 1 := by
  show cntF fr N 1 0 = 1
  rw [cntF, if_pos rfl]
theorem cnt_le {fr : Nat → Nat → Bool} {N : Nat} (hN : N ≤ 8) : ∀ t, t < 256 → cnt fr N t ≤ 8 ^ pc8 t := by
  intro t
  induction t using Nat.strongRecOn with
  | ind t ih =>
    intro ht
    by_cases e : t = 0
    · subst e; rw [cnt_zero]; exact Nat.one_le_pow _ _ (by omega)
    · rw [cnt_eq hN ht e]
      by_cases z : pc8 t = 0
      · rw [sumN_zero]
        · exact Nat.zero_le _
        · intro m hm
          rw [if_neg]
          rintro ⟨c, _⟩
          have := bit_off t ht m (by omega) c
          omega
      · have : sumN (fun n => if t.testBit n = true ∧ fr (t - 2 ^ n) n = true then cnt fr N (t - 2 ^ n) else 0) N ≤ N * 8 ^ (pc8 t - 1) := by
          refine sumN_le fun m hm => ?_
          split
          · rename_i c
            have b := bit_off t ht m (by omega) c.1
            have := ih _ b.1 (by omega)
            rw [show pc8 t - 1 = pc8 (t - 2 ^ m) by omega]; exact this
          · exact Nat.zero_le _
        have e2 : 8 ^ pc8 t = 8 * 8 ^ (pc8 t - 1) := by
          obtain ⟨k, hk⟩ : ∃ k, pc8 t = k + 1 := ⟨pc8 t - 1, by omega⟩
          rw [hk, Nat.pow_succ, Nat.mul_comm]; rfl
        rw [e2]
        exact Nat.le_trans this (Nat.mul_le_mul_right _ hN)
theorem cnt_small {fr : Nat → Nat → Bool} {N t : Nat} (hN : N ≤ 8) (ht : t < 256) : cnt fr N t ≤ 16777216 := by
  have h1 := cnt_le (fr := fr) hN t ht
  have h2 := Nat.pow_le_pow_right (n := 8) (by omega) (pc8_le t ht)
  have h3 : 8 ^ 8 = 16777216 := by decide
  omega
theorem cnt_clos {h : List (List Edt)} (hN : h.length ≤ 8) : ∀ t, t < 256 → 0 < cnt (frD h) h.length t → Clos h t := by
  intro t
  induction t using Nat.strongRecOn with
  | ind t ih =>
    intro ht hp
    by_cases e : t = 0
    · subst e; intro m hm; simp at hm
    · rw [cnt_eq hN ht e] at hp
      obtain ⟨n, hn, hp⟩ := sumN_pos hp
      split at hp
      · rename_i c
        obtain ⟨b1, b2, b3, _⟩ := bit_off t ht n (by omega) c.1
        have := (ih _ b1 (by omega) hp).on c.2
        rwa [b3] at this
      · omega
theorem cnt_same {h : List (List Edt)} (hN : h.length ≤ 8) : ∀ t, t < 256 → cnt (frD h) h.length t = cnt (frA h) h.length t := by
  intro t
  induction t using Nat.strongRecOn with
  | ind t ih =>
    intro ht
    by_cases e : t = 0
    · subst e; rw [cnt_zero, cnt_zero]
    · rw [cnt_eq hN ht e, cnt_eq hN ht e]
      refine sumN_congr fun n hn => ?_
      by_cases c : t.testBit n = true
      · obtain ⟨b1, _⟩ := bit_off t ht n (by omega) c
        have i := ih _ b1 (by omega)
        by_cases z : 0 < cnt (frD h) h.length (t - 2 ^ n)
        · rw [fr_same (cnt_clos hN _ (by omega) z) hn, i]
        · have z1 : cnt (frD h) h.length (t - 2 ^ n) = 0 := by omega
          have z2 : cnt (frA h) h.length (t - 2 ^ n) = 0 := by omega
          rw [z1, z2]; split <;> split <;> rfl
      · rw [if_neg (fun q => c q.1), if_neg (fun q => c q.1)]
theorem cnt_step {fr : Nat → Nat → Bool} {N t n : Nat} (hN : N ≤ 8) (ht : t < 256) (hn : n < N) (hb : t.testBit n = false) (hf : fr t n = true) : cnt fr N t ≤ cnt fr N (t ||| 2 ^ n) := by
  obtain ⟨b1, b2, b3⟩ := bit_on t ht n (by omega) hb
  rw [cnt_eq hN b3 (by omega)]
  have := sumN_one (f := fun m => if (t ||| 2 ^ n).testBit m = true ∧ fr ((t ||| 2 ^ n) - 2 ^ m) m = true then cnt fr N ((t ||| 2 ^ n) - 2 ^ m) else 0) hn
  rw [b1, if_pos ⟨by rw [bit_or]; simp, hf⟩] at this
  exact this

/-! ### What the table holds on the way -/
def part (fr : Nat → Nat → Bool) (N t n s : Nat) : Nat := (if s = 0 then 1 else 0) + sumN (fun m => if s.testBit m = true ∧ fr (s - 2 ^ m) m = true ∧ (s - 2 ^ m < t ∨ (s - 2 ^ m = t ∧ m < n)) then cnt fr N (s - 2 ^ m) else 0) N
theorem part_full {fr : Nat → Nat → Bool} {N t s : Nat} (hN : N ≤ 8) (hs : s < 256) (h : s ≤ t) (n : Nat) : part fr N t n s = cnt fr N s := by
  unfold part
  by_cases e : s = 0
  · subst e
    rw [if_pos rfl, cnt_zero, sumN_zero]
    intro m hm; rw [if_neg (by simp)]
  · rw [if_neg e, Nat.zero_add, cnt_eq hN hs e]
    refine sumN_congr fun m hm => ?_
    by_cases c : s.testBit m = true
    · have b := bit_off s hs m (by omega) c
      by_cases g : fr (s - 2 ^ m) m = true
      · rw [if_pos ⟨c, g, .inl (by omega)⟩, if_pos ⟨c, g⟩]
      · rw [if_neg (fun q => g q.2.1), if_neg (fun q => g q.2)]
    · rw [if_neg (fun q => c q.1), if_neg (fun q => c q.1)]
theorem part_next (fr : Nat → Nat → Bool) (N t s : Nat) : part fr N t N s = part fr N (t + 1) 0 s := by
  unfold part
  congr 1
  refine sumN_congr fun m hm => ?_
  have : (s - 2 ^ m < t ∨ (s - 2 ^ m = t ∧ m < N)) ↔ (s - 2 ^ m < t + 1 ∨ (s - 2 ^ m = t + 1 ∧ m < 0)) := by omega
  simp only [this]
theorem part_step {fr : Nat → Nat → Bool} {N t n s : Nat} (hN : N ≤ 8) (hn : n < N) (hs : s < 256) (ht : t < 256) (hfr : fr t n = true → t.testBit n = false) : part fr N t (n + 1) s = part fr N t n s + (if s = t ||| 2 ^ n ∧ fr t n = true then cnt fr N t else 0) := by
  unfold part
  have key := sumN_upd2 (f := fun m => if s.testBit m = true ∧ fr (s - 2 ^ m) m = true ∧ (s - 2 ^ m < t ∨ (s - 2 ^ m = t ∧ m < n)) then cnt fr N (s - 2 ^ m) else 0) (g := fun m => if s.testBit m = true ∧ fr (s - 2 ^ m) m = true ∧ (s - 2 ^ m < t ∨ (s - 2 ^ m = t ∧ m < n + 1)) then cnt fr N (s - 2 ^ m) else 0) hn (fun m hm e => by
    have : (s - 2 ^ m < t ∨ (s - 2 ^ m = t ∧ m < n)) ↔ (s - 2 ^ m < t ∨ (s - 2 ^ m = t ∧ m < n + 1)) := by omega
    simp only [this])
  have at_n : (if s.testBit n = true ∧ fr (s - 2 ^ n) n = true ∧ (s - 2 ^ n < t ∨ (s - 2 ^ n = t ∧ n < n + 1)) then cnt fr N (s - 2 ^ n) else 0) = (if s.testBit n = true ∧ fr (s - 2 ^ n) n = true ∧ (s - 2 ^ n < t ∨ (s - 2 ^ n = t ∧ n < n)) then cnt fr N (s - 2 ^ n) else 0) + (if s = t ||| 2 ^ n ∧ fr t n = true then cnt fr N t else 0) := by
    by_cases c : s.testBit n = true
    · obtain ⟨b1, b2, b3, _⟩ := bit_off s hs n (by omega) c
      by_cases q : s = t ||| 2 ^ n ∧ fr t n = true
      · have b := bit_on t ht n (by omega) (hfr q.2)
        rw [← q.1] at b
        rw [if_pos q, b.1, if_pos ⟨c, q.2, .inr ⟨rfl, by omega⟩⟩, if_neg (by rintro ⟨_, _, h | h⟩ <;> omega)]; omega
      · rw [if_neg q, Nat.add_zero]
        by_cases u : s - 2 ^ n = t
        · rw [u] at b3 ⊢
          rw [if_neg (fun w => q ⟨b3.symm, w.2.1⟩), if_neg (fun w => q ⟨b3.symm, w.2.1⟩)]
        · by_cases v : s - 2 ^ n < t
          · by_cases g : fr (s - 2 ^ n) n = true
            · simp only [c, g, v, true_and, true_or, if_true]; rfl
            · rw [if_neg (fun w => g w.2.1), if_neg (fun w => g w.2.1)]
          · rw [if_neg (by rintro ⟨_, _, h | h⟩ <;> omega), if_neg (by rintro ⟨_, _, h | h⟩ <;> omega)]
    · rw [if_neg (fun q => c q.1), if_neg (fun q => c q.1), if_neg (fun q => c (by rw [q.1, bit_or]; simp))]
  omega
theorem part_zero (fr : Nat → Nat → Bool) (N s : Nat) : part fr N 0 0 s = if s = 0 then 1 else 0 := by
  unfold part
  rw [sumN_zero]
  · rfl
  · intro m hm; rw [if_neg (by rintro ⟨_, _, h | h⟩ <;> omega)]
theorem part_le {fr : Nat → Nat → Bool} {N s : Nat} (hN : N ≤ 8) (hs : s < 256) (t n : Nat) : part fr N t n s ≤ cnt fr N s := by
  rw [← part_full (fr := fr) hN hs (Nat.le_refl s) 0]
  unfold part
  refine Nat.add_le_add_left (sumN_mono fun m hm => ?_) _
  by_cases c : s.testBit m = true ∧ fr (s - 2 ^ m) m = true
  · have b := bit_off s hs m (by omega) c.1
    rw [if_pos (show s.testBit m = true ∧ fr (s - 2 ^ m) m = true ∧ (s - 2 ^ m < s ∨ (s - 2 ^ m = s ∧ m < 0)) from ⟨c.1, c.2, .inl b.1⟩)]
    split <;> omega
  · rw [if_neg (fun q => c ⟨q.1, q.2.1⟩)]; exact Nat.zero_le _

/-! ### The last order -/
def pick (fr : Nat → Nat → Bool) (t : Nat) : Nat → Option Nat
  | 0 => none
  | n + 1 => if fr t n = true then some n else pick fr t n
theorem pick_some {fr : Nat → Nat → Bool} {t : Nat} : ∀ {N n}, pick fr t N = some n → n < N ∧ fr t n = true ∧ ∀ k, k < N → fr t k = true → k ≤ n
  | 0, n, h => by simp [pick] at h
  | N + 1, n, h => by
    unfold pick at h
    split at h
    · rename_i c
      cases h
      exact ⟨by omega, c, fun k hk _ => by omega⟩
    · rename_i c
      obtain ⟨h1, h2, h3⟩ := pick_some h
      refine ⟨by omega, h2, fun k hk hf => ?_⟩
      by_cases e : k = N
      · subst e; exact absurd hf c
      · exact h3 k (by omega) hf
theorem pick_none {fr : Nat → Nat → Bool} {t : Nat} : ∀ {N}, pick fr t N = none → ∀ k, k < N → fr t k = false
  | 0, _, k, hk => by omega
  | N + 1, h, k, hk => by
    unfold pick at h
    split at h
    · cases h
    · rename_i c
      by_cases e : k = N
      · subst e; simpa using c
      · exact pick_none h k (by omega)
def lastF (fr : Nat → Nat → Bool) (N : Nat) : Nat → List Int × Nat
  | 0 => ([], 0)
  | i + 1 => match pick fr (lastF fr N i).2 N with
    | some n => ((lastF fr N i).1 ++ [(n : Int)], (lastF fr N i).2 ||| 2 ^ n)
    | none => lastF fr N i
theorem least_free {h : List (List Edt)} {t n : Nat} (hn : t.testBit n = false) : ∃ k, k ≤ n ∧ frD h t k = true := by
  induction n using Nat.strongRecOn with
  | ind n ih =>
    by_cases c : ∀ k, k < n → t.testBit k = true
    · exact ⟨n, Nat.le_refl _, frD_iff.2 ⟨hn, fun k hk _ => c k hk⟩⟩
    · have ⟨k, hk⟩ := Classical.not_forall.1 c
      have ⟨hk1, hk2⟩ := Classical.not_imp.1 hk
      obtain ⟨j, j1, j2⟩ := ih k hk1 (by simpa using hk2)
      exact ⟨j, by omega, j2⟩
structure Lst7 (h : List (List Edt)) (i : Nat) (o : List Int) (t : Nat) : Prop where
  len : o.length = i
  lt : t < 2 ^ h.length
  bits : ∀ m, t.testBit m = true ↔ (m : Int) ∈ o
  mem : ∀ x ∈ o, 0 ≤ x ∧ x < h.length
  nodup : o.Nodup
  clos : Clos h t
  keeps : keepsB h o = true
theorem Lst7.has {h : List (List Edt)} {i : Nat} {o : List Int} {t : Nat} (s : Lst7 h i o t) (hi : i < h.length) : ∃ n, pick (frD h) t h.length = some n := by
  cases e : pick (frD h) t h.length with
  | some n => exact ⟨n, rfl⟩
  | none =>
    exfalso
    have p := pick_none e
    have all : ∀ n, n < h.length → t.testBit n = true := by
      intro n hn
      cases b : t.testBit n
      · obtain ⟨k, k1, k2⟩ := least_free (h := h) b
        rw [p k (by omega)] at k2; cases k2
      · rfl
    have := (perm_of_sub (upI_nodup h.length) (fun x hx => by
      rw [upI_mem] at hx
      obtain ⟨k, rfl⟩ := Int.eq_ofNat_of_zero_le hx.1
      exact (s.bits k).1 (all k (by omega))) (by rw [s.len, upI_len]; omega)).length_eq
    rw [upI_len, s.len] at this
    omega
theorem Lst7.next {h : List (List Edt)} {i : Nat} {o : List Int} {t n : Nat} (s : Lst7 h i o t) (e : pick (frD h) t h.length = some n) : Lst7 h (i + 1) (o ++ [(n : Int)]) (t ||| 2 ^ n) := by
  obtain ⟨h1, h2, _⟩ := pick_some e
  have hb := (frD_iff.1 h2).1
  have hno : (n : Int) ∉ o := fun q => by rw [(s.bits n).2 q] at hb; cases hb
  refine ⟨by simp [s.len], or_lt s.lt h1, fun m => ?_, fun x hx => ?_, ?_, s.clos.on h2, ?_⟩
  · rw [bit_or, Bool.or_eq_true, s.bits m, List.mem_append, List.mem_singleton, decide_eq_true_eq]
    constructor
    · rintro (q | q)
      · exact .inl q
      · exact .inr (by omega)
    · rintro (q | q)
      · exact .inl q
      · exact .inr (by omega)
  · rcases List.mem_append.1 hx with g | g
    · exact s.mem x g
    · simp at g; subst g; omega
  · rw [List.nodup_append]
    refine ⟨s.nodup, by simp, fun a ha b hb => ?_⟩
    simp at hb; subst hb
    exact fun q => hno (q ▸ ha)
  · rw [keepsB_iff, List.pairwise_append]
    refine ⟨keepsB_iff.1 s.keeps, by simp, fun a ha b hb => ?_⟩
    simp at hb; subst hb
    rintro ⟨q1, q2⟩
    obtain ⟨a', rfl⟩ := Int.eq_ofNat_of_zero_le (s.mem a ha).1
    have := s.clos a' ((s.bits a').2 ha) n (by omega) q2
    rw [this] at hb; cases hb
theorem lastF_ok (h : List (List Edt)) : ∀ i, i ≤ h.length → Lst7 h i (lastF (frD h) h.length i).1 (lastF (frD h) h.length i).2
  | 0, _ => ⟨rfl, Nat.two_pow_pos _, by simp [lastF], by simp [lastF], by simp [lastF], (by intro m hm; simp [lastF] at hm), rfl⟩
  | i + 1, hi => by
    have s := lastF_ok h i (by omega)
    obtain ⟨n, e⟩ := s.has (by omega)
    have := s.next e
    rw [lastF, e]; exact this
def lastL (h : List (List Edt)) : List Int := (lastF (frD h) h.length h.length).1
theorem lastL_perm (h : List (List Edt)) : Perm7 (lastL h) h.length := by
  have s := lastF_ok h h.length (Nat.le_refl _)
  have p := perm_of_sub s.nodup (k := upI h.length) (fun x hx => upI_mem.2 (s.mem x hx)) (by rw [s.len, upI_len]; exact Nat.le_refl _)
  exact ⟨s.nodup, fun x => by rw [← upI_mem]; exact p.mem_iff, s.len⟩
theorem lastL_ok {p : List Lin} {h : List (List Edt)} (e : err7 p h = 0) : ordE p h (lastL h) = 0 := ordE_iff.2 ⟨e, lastL_perm h, (lastF_ok h h.length (Nat.le_refl _)).keeps⟩

/-! ### One order, or more -/
def seg (j : Nat) : Nat := 2 ^ j - 1
theorem seg_bit (j m : Nat) : (seg j).testBit m = decide (m < j) := Nat.testBit_two_pow_sub_one ..
theorem seg_lt {j N : Nat} (h : j ≤ N) : seg j < 2 ^ N := by
  have := Nat.pow_le_pow_right (n := 2) (by omega) h
  have := Nat.two_pow_pos j
  unfold seg; omega
theorem seg_on (j : Nat) : seg j ||| 2 ^ j = seg (j + 1) := by
  apply Nat.eq_of_testBit_eq
  intro m
  rw [bit_or, seg_bit, seg_bit, Bool.eq_iff_iff]
  simp; omega
theorem frD_seg (h : List (List Edt)) (j : Nat) : frD h (seg j) j = true := frD_iff.2 ⟨by rw [seg_bit]; simp, fun k hk _ => by rw [seg_bit]; simpa using hk⟩
theorem full_ge {h : List (List Edt)} (hN : h.length ≤ 8) : ∀ d t, t < 2 ^ h.length → 2 ^ h.length - t ≤ d → cnt (frD h) h.length t ≤ cnt (frD h) h.length (seg h.length)
  | 0, t, ht, hd => by omega
  | d + 1, t, ht, hd => by
    have p8 := pow_le8 hN
    by_cases c : ∃ n, n < h.length ∧ t.testBit n = false
    · obtain ⟨n, n1, n2⟩ := c
      obtain ⟨k, k1, k2⟩ := least_free (h := h) n2
      have kb := (frD_iff.1 k2).1
      have b := bit_on t (by omega) k (by omega) kb
      have h1 := cnt_step (fr := frD h) hN (by omega) (show k < h.length by omega) kb k2
      have h2 := full_ge hN d (t ||| 2 ^ k) (or_lt ht (by omega)) (by omega)
      omega
    · have e : t = seg h.length := by
        apply Nat.eq_of_testBit_eq
        intro m
        rw [seg_bit]
        by_cases q : m < h.length
        · rw [decide_eq_true q]
          cases b : t.testBit m
          · exact absurd ⟨m, q, b⟩ c
          · rfl
        · rw [decide_eq_false q, Nat.testBit_lt_two_pow (Nat.lt_of_lt_of_le ht (Nat.pow_le_pow_right (by omega) (by omega)))]
      rw [e]; exact Nat.le_refl _
def cntL (h : List (List Edt)) : Nat := cnt (frD h) h.length (seg h.length)
theorem cntL_pos {h : List (List Edt)} (hN : h.length ≤ 8) : 1 ≤ cntL h := by
  have := full_ge hN _ 0 (Nat.two_pow_pos _) (Nat.le_refl _)
  rw [cnt_zero] at this
  exact this
theorem cntL_two {h : List (List Edt)} (hN : h.length ≤ 8) {j m : Nat} (hjm : j < m) (hm : m < h.length) (hf : frD h (seg j) m = true) (hs : 1 ≤ cnt (frD h) h.length (seg j)) : 2 ≤ cntL h := by
  have p8 := pow_le8 hN
  have sl := seg_lt (show j ≤ h.length by omega)
  have fj := frD_seg h j
  have bj := (frD_iff.1 fj).1
  have bm := (frD_iff.1 hf).1
  -- both, in either order
  have lj := or_lt sl (show j < h.length by omega)
  have lm := or_lt sl hm
  have fm2 : frD h (seg j ||| 2 ^ j) m = true := frD_iff.2 ⟨by rw [bit_or, bm]; simp; omega, fun k hk ht => by rw [bit_or, (frD_iff.1 hf).2 k hk ht]; rfl⟩
  have fj2 : frD h (seg j ||| 2 ^ m) j = true := frD_iff.2 ⟨by rw [bit_or, bj]; simp; omega, fun k hk ht => by rw [bit_or, (frD_iff.1 fj).2 k hk ht]; rfl⟩
  have h1 := cnt_step (fr := frD h) hN (by omega) (show j < h.length by omega) bj fj
  have h2 := cnt_step (fr := frD h) hN (by omega) hm bm hf
  have e : (seg j ||| 2 ^ j) ||| 2 ^ m = (seg j ||| 2 ^ m) ||| 2 ^ j := by rw [Nat.or_assoc, Nat.or_assoc, Nat.or_comm (2 ^ j)]
  have g1 := bit_on (seg j ||| 2 ^ j) (by omega) m (by omega) (frD_iff.1 fm2).1
  have g2 := bit_on (seg j ||| 2 ^ m) (by omega) j (by omega) (frD_iff.1 fj2).1
  rw [← e] at g2
  have ge := full_ge hN _ ((seg j ||| 2 ^ j) ||| 2 ^ m) (or_lt lj hm) (Nat.le_refl _)
  rw [cnt_eq hN (by omega) (by omega)] at ge
  have two := sumN_two (f := fun n => if ((seg j ||| 2 ^ j) ||| 2 ^ m).testBit n = true ∧ frD h (((seg j ||| 2 ^ j) ||| 2 ^ m) - 2 ^ n) n = true then cnt (frD h) h.length (((seg j ||| 2 ^ j) ||| 2 ^ m) - 2 ^ n) else 0) hjm hm
  rw [g1.1, g2.1, if_pos ⟨by rw [bit_or, bit_or]; simp, fj2⟩, if_pos ⟨by rw [bit_or]; simp, fm2⟩] at two
  unfold cntL
  omega
theorem cnt_seg {h : List (List Edt)} (hN : h.length ≤ 8) : ∀ j, j ≤ h.length → 1 ≤ cnt (frD h) h.length (seg j)
  | 0, _ => by rw [show seg 0 = 0 from rfl, cnt_zero]; exact Nat.le_refl _
  | j + 1, hj => by
    have p8 := pow_le8 hN
    have := seg_lt (show j ≤ h.length by omega)
    have f := frD_seg h j
    have := cnt_step (fr := frD h) hN (t := seg j) (by omega) (show j < h.length by omega) (frD_iff.1 f).1 f
    rw [seg_on] at this
    have := cnt_seg hN j (by omega)
    omega
/-- Just one order: at each beginning of the history just the next repair is free. -/
def Only (h : List (List Edt)) : Prop := ∀ j, j < h.length → ∀ m, m < h.length → frD h (seg j) m = true → m = j
theorem only_one {h : List (List Edt)} (hN : h.length ≤ 8) (o : Only h) : ∀ t, t < 2 ^ h.length → 0 < cnt (frD h) h.length t → ∃ j, j ≤ h.length ∧ t = seg j ∧ cnt (frD h) h.length t = 1 := by
  have p8 := pow_le8 hN
  intro t
  induction t using Nat.strongRecOn with
  | ind t ih =>
    intro ht hp
    by_cases e : t = 0
    · subst e
      exact ⟨0, Nat.zero_le _, rfl, cnt_zero ..⟩
    · have he := cnt_eq (fr := frD h) hN (t := t) (by omega) e
      have term : ∀ n, n < h.length → 0 < (if t.testBit n = true ∧ frD h (t - 2 ^ n) n = true then cnt (frD h) h.length (t - 2 ^ n) else 0) → t = seg (n + 1) ∧ (if t.testBit n = true ∧ frD h (t - 2 ^ n) n = true then cnt (frD h) h.length (t - 2 ^ n) else 0) = 1 := by
        intro n hn hq
        by_cases c : t.testBit n = true ∧ frD h (t - 2 ^ n) n = true
        · rw [if_pos c] at hq ⊢
          obtain ⟨b1, b2, b3, _⟩ := bit_off t (by omega) n (by omega) c.1
          obtain ⟨j, j1, j2, j3⟩ := ih _ b1 (by omega) hq
          have hj : j < h.length := by
            have := c.2
            rw [j2] at this
            have nb := (frD_iff.1 this).1
            rw [seg_bit] at nb
            simp at nb; omega
          have := o j hj n hn (by rw [← j2]; exact c.2)
          subst this
          rw [j2, seg_on] at b3
          exact ⟨b3.symm, j3⟩
        · rw [if_neg c] at hq; omega
      rw [he] at hp
      obtain ⟨n, n1, n2⟩ := sumN_pos hp
      obtain ⟨t1, t2⟩ := term n n1 n2
      refine ⟨n + 1, by omega, t1, ?_⟩
      rw [he, sumN_single n1, t2]
      intro m hm hmn
      by_cases z : 0 < (if t.testBit m = true ∧ frD h (t - 2 ^ m) m = true then cnt (frD h) h.length (t - 2 ^ m) else 0)
      · exfalso
        have t3 := (term m hm z).1
        rw [t1] at t3
        have h3 := seg_bit (n + 1) (max m n)
        rw [t3, seg_bit] at h3
        simp at h3; omega
      · omega
theorem last_up {h : List (List Edt)} (o : Only h) : ∀ i, i ≤ h.length → lastF (frD h) h.length i = (upI i, seg i)
  | 0, _ => rfl
  | i + 1, hi => by
    have ih := last_up o i (by omega)
    have s := lastF_ok h i (by omega)
    obtain ⟨n, e⟩ := s.has (by omega)
    rw [lastF, e, ih]
    rw [ih] at e
    obtain ⟨e1, e2, _⟩ := pick_some e
    have := o i (by omega) n e1 e2
    subst this
    show (upI n ++ [(n : Int)], seg n ||| 2 ^ n) = (upI (n + 1), seg (n + 1))
    rw [seg_on]; rfl
theorem only_iff {h : List (List Edt)} (hN : h.length ≤ 8) : lastL h = upI h.length ↔ cntL h = 1 := by
  constructor
  · intro e
    have pre : ∀ d i, i + d = h.length → (lastF (frD h) h.length i).1 = upI i := by
      intro d
      induction d with
      | zero => intro i hi; rw [show i = h.length by omega]; exact e
      | succ d ih =>
        intro i hi
        have s := lastF_ok h i (by omega)
        obtain ⟨n, en⟩ := s.has (by omega)
        have := ih (i + 1) (by omega)
        rw [lastF, en] at this
        exact (List.append_inj' this rfl).1
    have only : Only h := by
      intro j hj m hm hf
      have s := lastF_ok h j (by omega)
      obtain ⟨n, en⟩ := s.has hj
      have p1 := pre (h.length - j) j (by omega)
      have p2 := pre (h.length - (j + 1)) (j + 1) (by omega)
      have ht : (lastF (frD h) h.length j).2 = seg j := by
        apply Nat.eq_of_testBit_eq
        intro m
        rw [seg_bit, Bool.eq_iff_iff, s.bits m, p1, upI_mem, decide_eq_true_eq]
        omega
      rw [lastF, en, p1] at p2
      have hn : n = j := by
        have := (List.append_inj' p2 rfl).2
        simp at this; omega
      subst hn
      rw [ht] at en
      have := (pick_some en).2.2 m hm hf
      have nb := (frD_iff.1 hf).1
      rw [seg_bit] at nb
      simp at nb; omega
    obtain ⟨j, _, _, h3⟩ := only_one hN only (seg h.length) (seg_lt (Nat.le_refl _)) (cntL_pos hN)
    exact h3
  · intro e
    have only : Only h := by
      intro j hj m hm hf
      have nb := (frD_iff.1 hf).1
      rw [seg_bit] at nb
      simp at nb
      by_cases q : m = j
      · exact q
      · exfalso
        have := cntL_two hN (show j < m by omega) hm hf (cnt_seg hN j (by omega))
        omega
    unfold lastL
    rw [last_up only _ (Nat.le_refl _)]
end Go.Tk
