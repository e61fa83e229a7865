/- Merged: P8t P8u EngX C8D C8E C8F C8Ga C8Gb C8Gc C8r C8s C8t P8y C8Gd. -/
import Derived.Test.YtmedjckknalpbaaMg2
import Derived.Test.YtmedjckknalpbaaEngW
import Derived.WalkKit
import Derived.Great.BuildSlice
import Derived.ScopeJumps
import Derived.Deep.RegionHeld3
import Derived.Deep.DrawnRows
import Derived.Laws.NewBlocks
import Derived.Laws.Alloc2
import Derived.Laws.EntriesVeiled
/- Plain facts of layer 8: without its needless rows. No program in sight. -/
set_option linter.unusedSimpArgs false
set_option linter.unusedVariables false
set_option linter.unnecessarySimpa false
namespace Go.Tk
open Go Go.RowKit

def keepT (t : Ste) : List Int := (nums t.length).filter fun r => !decide (r ∈ needT t)
def lessT (t : Ste) : Ste := (keepT t).map fun r => t.getD r.toNat []

theorem keep_mem {t : Ste} {r : Int} : r ∈ keepT t ↔ (0 ≤ r ∧ r < t.length) ∧ ¬ r ∈ needT t := by
  unfold keepT
  rw [List.mem_filter, nums_mem]
  simp
/-- What a row that another one beats is worth. -/
theorem beats_less {t : Ste} {a b : Int} (h : beatsB t a b = true) : (metL t [a]).length > (metL t [b]).length ∨ ((metL t [a]).length = (metL t [b]).length ∧ a < b) := by
  have hs := (beats_sub h).2
  have hle : (metL t [b]).length ≤ (metL t [a]).length := by
    rw [met1_length, met1_length]
    exact filt_le fun g hg hb => hs g (List.mem_range.1 hg) hb
  unfold beatsB at h
  simp only [Bool.and_eq_true, Bool.or_eq_true, decide_eq_true_eq] at h
  rcases h.2 with h | h
  · exact .inl h
  · omega
/-- Each row is within one that is kept. -/
theorem dominated {t : Ste} : ∀ (m : Nat) (r : Int), 0 ≤ r ∧ r < t.length → (goals8 t - (metL t [r]).length) * t.length + r.toNat < m → ∃ k ∈ keepT t, ∀ g, g < goals8 t → hits t r g = true → hits t k g = true
  | 0, _, _, h => by omega
  | m + 1, r, hr, h => by
    by_cases hk : r ∈ needT t
    · obtain ⟨_, h2⟩ := List.mem_filter.1 hk
      obtain ⟨k, hk2, hb⟩ := List.any_eq_true.1 h2
      have hkr := nums_mem.1 hk2
      have hlt := beats_less hb
      have hlk := metL_len t [k]
      have hlr := metL_len t [r]
      have hdec : (goals8 t - (metL t [k]).length) * t.length + k.toNat < m := by
        rcases hlt with q | ⟨q, q'⟩
        · have e : goals8 t - (metL t [r]).length = (goals8 t - (metL t [k]).length) + ((metL t [k]).length - (metL t [r]).length) := by omega
          rw [e, Nat.add_mul] at h
          have : 1 * t.length ≤ ((metL t [k]).length - (metL t [r]).length) * t.length := Nat.mul_le_mul_right _ (by omega)
          omega
        · rw [q]
          omega
      obtain ⟨q, hq, hqs⟩ := dominated m k hkr hdec
      exact ⟨q, hq, fun g hg hh => hqs g hg ((beats_sub hb).2 g hg hh)⟩
    · exact ⟨r, keep_mem.2 ⟨hr, hk⟩, fun g _ h => h⟩
theorem keep_any {t : Ste} {r : Int} (hr : 0 ≤ r ∧ r < t.length) : ∃ k ∈ keepT t, ∀ g, g < goals8 t → hits t r g = true → hits t k g = true := dominated _ r hr (Nat.lt_succ_self _)

theorem less_len (t : Ste) : (lessT t).length = (keepT t).length := by simp [lessT]
theorem less_get {t : Ste} {j : Nat} (hj : j < (keepT t).length) : (lessT t).getD j [] = t.getD ((keepT t).getD j 0).toNat [] := by
  unfold lessT
  simp [List.getD_eq_getElem?_getD, hj]
theorem less_hits {t : Ste} {j : Nat} (hj : j < (keepT t).length) (g : Nat) : hits (lessT t) (j : Int) g = hits t ((keepT t).getD j 0) g := by
  unfold hits
  rw [Int.toNat_natCast, less_get hj]
theorem less_ok {t : Ste} (h : okT t) : okT (lessT t) ∧ goals8 (lessT t) = goals8 t := by
  have hkl : (keepT t).length ≤ t.length := filt_nums_len _ _
  have hg : goals8 (lessT t) = goals8 t := by
    by_cases h0 : t.length = 0
    · have e : t = [] := List.eq_nil_of_length_eq_zero h0
      subst e
      have : lessT [] = [] := by
        have := less_len []
        exact List.eq_nil_of_length_eq_zero (by simp at hkl; rw [this, hkl]; rfl)
      rw [this]
    · obtain ⟨k, hk, _⟩ := keep_any (t := t) (r := 0) ⟨by omega, by omega⟩
      have hpos : 0 < (keepT t).length := List.length_pos_of_mem hk
      unfold goals8
      rw [less_get hpos]
      have hm := keep_mem.1 (mem_getD (d := 0) hpos)
      exact okT_row h (i := ((keepT t).getD 0 0).toNat) (by omega)
  refine ⟨⟨by rw [less_len]; have := h.1; omega, by rw [hg]; exact h.2.1, fun r hr => ?_⟩, hg⟩
  rw [hg]
  unfold lessT at hr
  obtain ⟨k, hk, rfl⟩ := List.mem_map.1 hr
  have hm := (keep_mem.1 hk).1
  exact h.2.2 _ (mem_getD (by omega))

theorem less_open {t : Ste} (h : okT t) : openL (lessT t) = openL t := by
  have hg := (less_ok h).2
  unfold openL metL
  rw [hg]
  congr 1
  refine filt_congr fun g hgr => ?_
  rw [List.mem_range] at hgr
  rw [Bool.eq_iff_iff, List.any_eq_true, List.any_eq_true]
  constructor
  · rintro ⟨j, hj, e⟩
    have hj2 := nums_mem.1 hj
    rw [less_len] at hj2
    have hjn : (j.toNat : Int) = j := by omega
    rw [← hjn, less_hits (by omega)] at e
    exact ⟨_, nums_mem.2 (keep_mem.1 (mem_getD (by omega))).1, e⟩
  · rintro ⟨r, hr, e⟩
    obtain ⟨k, hk, hs⟩ := keep_any (t := t) (nums_mem.1 hr)
    obtain ⟨j, hj, ej⟩ := List.mem_iff_getElem.1 hk
    refine ⟨(j : Int), nums_mem.2 ⟨by omega, by rw [less_len]; omega⟩, ?_⟩
    rw [less_hits hj]
    have : (keepT t).getD j 0 = k := by rw [List.getD_eq_getElem?_getD, List.getElem?_eq_getElem hj]; exact ej
    rw [this]
    exact hs g hgr e

theorem keep_pair (t : Ste) : (keepT t).Pairwise (· < ·) := by
  refine List.Pairwise.sublist (List.filter_sublist (l := nums t.length)) ?_
  exact (nums_up t).1
theorem one_of {z : List Int} (hz : z.Pairwise (· < ·)) (x : Int) : (z.filter fun j => x == j).length ≤ 1 := by
  have h1 : (z.filter fun j => x == j).Pairwise (· < ·) := hz.sublist List.filter_sublist
  have h2 : ∀ y ∈ z.filter (fun j => x == j), x = y := fun y hy => eq_of_beq (List.mem_filter.1 hy).2
  generalize z.filter (fun j => x == j) = l at h1 h2
  match l, h1, h2 with
  | [], _, _ => simp
  | [_], _, _ => simp
  | a :: b :: l, h1, h2 =>
    have e1 := h2 a (by simp)
    have e2 := h2 b (by simp)
    have := (List.pairwise_cons.1 h1).1 b (by simp)
    omega
/-- The smallest cover is as small. -/
theorem less_cover {t : Ste} (h : okT t) : (coverS (lessT t)).length = (coverS t).length := by
  obtain ⟨hok, hg⟩ := less_ok h
  have hop := less_open h
  obtain ⟨s1, s2, s3⟩ := coverS_spec t
  obtain ⟨r1, r2, r3⟩ := coverS_spec (lessT t)
  have up : (coverS t).length ≤ (coverS (lessT t)).length := by
    obtain ⟨q1, q2⟩ := isSet8_pair.1 r1
    rw [less_len] at q2
    generalize coverS (lessT t) = z at r2 q1 q2 ⊢
    have hset : isSet8 (z.map fun j => (keepT t).getD j.toNat 0) t.length = true := by
      rw [isSet8_pair]
      constructor
      · rw [List.pairwise_map]
        refine List.Pairwise.imp_of_mem (fun {a b} ha hb hab => ?_) q1
        have ha2 := q2 a ha
        have hb2 := q2 b hb
        have := (List.pairwise_iff_getElem.1 (keep_pair t)) a.toNat b.toNat (by omega) (by omega) (by omega)
        simpa [List.getD_eq_getElem?_getD, show a.toNat < (keepT t).length by omega, show b.toNat < (keepT t).length by omega] using this
      · intro r hr
        obtain ⟨j, hj, rfl⟩ := List.mem_map.1 hr
        have hj2 := q2 j hj
        exact (keep_mem.1 (mem_getD (by omega))).1
    have hcov : coverB t (z.map fun j => (keepT t).getD j.toNat 0) = true := by
      unfold coverB at r2 ⊢
      rw [decide_eq_true_eq] at r2 ⊢
      rw [hop] at r2
      rw [← r2, metL_length, metL_length, hg]
      congr 1
      refine filt_congr fun g hgr => ?_
      rw [List.any_map, Bool.eq_iff_iff, List.any_eq_true, List.any_eq_true]
      constructor
      · rintro ⟨j, hj, e⟩
        refine ⟨j, hj, ?_⟩
        have hj2 := q2 j hj
        have := less_hits (t := t) (j := j.toNat) (by omega) g
        rw [show ((j.toNat : Nat) : Int) = j by omega] at this
        rw [this]; exact e
      · rintro ⟨j, hj, e⟩
        refine ⟨j, hj, ?_⟩
        have hj2 := q2 j hj
        have := less_hits (t := t) (j := j.toNat) (by omega) g
        rw [show ((j.toNat : Nat) : Int) = j by omega] at this
        rw [this] at e; exact e
    rcases s3 _ hset hcov with q | ⟨q, _⟩
    · rw [List.length_map] at q; omega
    · rw [List.length_map] at q; omega
  have down : (coverS (lessT t)).length ≤ (coverS t).length := by
    have hin := isSet8_in s1
    generalize coverS t = a at s2 hin ⊢
    have hd : ∀ r : Int, ∃ j : Int, (0 ≤ r ∧ r < t.length) → (0 ≤ j ∧ j < (keepT t).length) ∧ ∀ g, g < goals8 t → hits t r g = true → hits (lessT t) j g = true := by
      intro r
      by_cases hr : 0 ≤ r ∧ r < t.length
      · obtain ⟨k, hk, hs⟩ := keep_any (t := t) hr
        obtain ⟨j, hj, ej⟩ := List.mem_iff_getElem.1 hk
        refine ⟨(j : Int), fun _ => ⟨⟨by omega, by omega⟩, fun g hgr e => ?_⟩⟩
        rw [less_hits hj]
        have : (keepT t).getD j 0 = k := by rw [List.getD_eq_getElem?_getD, List.getElem?_eq_getElem hj]; exact ej
        rw [this]
        exact hs g hgr e
      · exact ⟨0, fun q => absurd q hr⟩
    obtain ⟨d, hd⟩ := Classical.axiomOfChoice hd
    have hzp : ((nums (lessT t).length).filter fun j => a.any fun r => d r == j).Pairwise (· < ·) := (nums_up (lessT t)).1.sublist List.filter_sublist
    have hset : isSet8 ((nums (lessT t).length).filter fun j => a.any fun r => d r == j) (lessT t).length = true := isSet8_pair.2 ⟨hzp, fun r hr => nums_mem.1 (List.mem_filter.1 hr).1⟩
    have hle : ((nums (lessT t).length).filter fun j => a.any fun r => d r == j).length ≤ a.length := by
      refine count_le (fun r j => d r == j) a _ (fun j hj => ?_) fun r _ => one_of hzp (d r)
      obtain ⟨r, hr, e⟩ := List.any_eq_true.1 (List.mem_filter.1 hj).2
      exact ⟨r, hr, e⟩
    have hcov : coverB (lessT t) ((nums (lessT t).length).filter fun j => a.any fun r => d r == j) = true := by
      have hm : metL t a = openL t := met_eq (fun r hr => nums_mem.2 (hin r hr)) (by unfold coverB at s2; exact of_decide_eq_true s2)
      unfold coverB
      rw [decide_eq_true_eq, hop, ← hm, metL_length, metL_length, hg]
      refine Nat.le_antisymm ?_ ?_
      · have h1 := met_le_open (t := lessT t) (l := (nums (lessT t).length).filter fun j => a.any fun r => d r == j) (fun r hr => nums_mem.1 (List.mem_filter.1 hr).1)
        rw [hop, ← hm, metL_length, metL_length, hg] at h1
        exact h1
      · refine filt_le fun g hgr hh => ?_
        rw [List.mem_range] at hgr
        obtain ⟨r, hr, e⟩ := List.any_eq_true.1 hh
        obtain ⟨q1, q2⟩ := hd r (hin r hr)
        refine List.any_eq_true.2 ⟨d r, List.mem_filter.2 ⟨nums_mem.2 ⟨q1.1, by rw [less_len]; exact q1.2⟩, List.any_eq_true.2 ⟨r, hr, by simp⟩⟩, q2 g hgr e⟩
    rcases r3 _ hset hcov with q | ⟨q, _⟩
    · omega
    · omega
  omega

end Go.Tk
/- Plain facts of layer 8: a suite without a goal. No program in sight. -/
set_option linter.unusedSimpArgs false
set_option linter.unusedVariables false
set_option linter.unnecessarySimpa false
namespace Go.Tk
open Go Go.RowKit

def cutG (g : Nat) (r : List Int) : List Int := r.take g ++ r.drop (g + 1)
def dropT (t : Ste) (g : Nat) : Ste := t.map (cutG g)
def backG (g k : Nat) : Nat := if k < g then k else k + 1

theorem cutG_len {g : Nat} {r : List Int} (h : g < r.length) : (cutG g r).length = r.length - 1 := by
  unfold cutG
  simp
  omega
theorem cutG_get {g : Nat} {r : List Int} (h : g < r.length) (k : Nat) : (cutG g r).getD k 0 = r.getD (backG g k) 0 := by
  unfold cutG backG
  simp only [List.getD_eq_getElem?_getD]
  congr 1
  by_cases hk : k < g
  · rw [if_pos hk, List.getElem?_append_left (by simp; omega), List.getElem?_take_of_lt hk]
  · rw [if_neg hk, List.getElem?_append_right (by simp; omega), List.getElem?_drop]
    congr 1
    simp
    omega
theorem drop_len (t : Ste) (g : Nat) : (dropT t g).length = t.length := by simp [dropT]
theorem drop_get {t : Ste} {g j : Nat} (hj : j < t.length) : (dropT t g).getD j [] = cutG g (t.getD j []) := by
  unfold dropT
  simp [List.getD_eq_getElem?_getD, hj]
theorem drop_goals {t : Ste} (h : okT t) {g : Nat} (hg : g < goals8 t) : goals8 (dropT t g) = goals8 t - 1 := by
  have h0 : 0 < t.length := by
    rcases Nat.eq_zero_or_pos t.length with q | q
    · rw [List.eq_nil_of_length_eq_zero q] at hg
      simp [goals8] at hg
    · exact q
  unfold goals8
  rw [drop_get h0]
  exact cutG_len hg
theorem drop_ok {t : Ste} (h : okT t) {g : Nat} (hg : g < goals8 t) : okT (dropT t g) := by
  refine ⟨by rw [drop_len]; exact h.1, by rw [drop_goals h hg]; have := h.2.1; omega, fun r hr => ?_⟩
  unfold dropT at hr
  obtain ⟨q, hq, rfl⟩ := List.mem_map.1 hr
  have h3 := h.2.2 q hq
  refine ⟨by rw [drop_goals h hg, cutG_len (by omega), h3.1], fun x hx => ?_⟩
  unfold cutG at hx
  rcases List.mem_append.1 hx with y | y
  · exact h3.2 x (List.mem_of_mem_take y)
  · exact h3.2 x (List.mem_of_mem_drop y)
theorem drop_hits {t : Ste} (h : okT t) {g : Nat} (hg : g < goals8 t) {r : Int} (hr : 0 ≤ r ∧ r < t.length) (k : Nat) : hits (dropT t g) r k = hits t r (backG g k) := by
  unfold hits
  rw [drop_get (by omega), cutG_get (by rw [okT_row h (by omega)]; exact hg)]
/-- What covers the suite covers it without a goal too. -/
theorem cover_iff {t : Ste} {l : List Int} (hl : inT t l) : coverB t l = true ↔ ∀ g, g < goals8 t → (∃ r ∈ nums t.length, hits t r g = true) → ∃ r ∈ l, hits t r g = true := by
  unfold coverB
  rw [decide_eq_true_eq, openL, metL_length, metL_length]
  constructor
  · intro h g hg ⟨r, hr, e⟩
    have he := filt_eq (p := fun g => l.any fun r => hits t r g) (q := fun g => (nums t.length).any fun r => hits t r g) (l := List.range (goals8 t)) (fun g hg q => by
      obtain ⟨r, hr, e⟩ := List.any_eq_true.1 q
      exact List.any_eq_true.2 ⟨r, nums_mem.2 (hl r hr), e⟩) h
    have hm : g ∈ (List.range (goals8 t)).filter fun g => (nums t.length).any fun r => hits t r g := List.mem_filter.2 ⟨List.mem_range.2 hg, List.any_eq_true.2 ⟨r, hr, e⟩⟩
    rw [← he] at hm
    exact List.any_eq_true.1 (List.mem_filter.1 hm).2
  · intro h
    congr 1
    refine filt_congr fun g hg => ?_
    rw [List.mem_range] at hg
    rw [Bool.eq_iff_iff, List.any_eq_true, List.any_eq_true]
    constructor
    · rintro ⟨r, hr, e⟩
      exact ⟨r, nums_mem.2 (hl r hr), e⟩
    · exact h g hg
theorem drop_cover {t : Ste} (h : okT t) {g : Nat} (hg : g < goals8 t) : (coverS (dropT t g)).length ≤ (coverS t).length := by
  obtain ⟨s1, s2, s3⟩ := coverS_spec t
  obtain ⟨r1, r2, r3⟩ := coverS_spec (dropT t g)
  rw [drop_len] at r3
  have hin := isSet8_in s1
  have hc : coverB (dropT t g) (coverS t) = true := by
    rw [cover_iff (by intro r hr; rw [drop_len]; exact hin r hr)]
    rw [drop_goals h hg, drop_len]
    intro k hk ⟨r, hr, e⟩
    rw [drop_hits h hg (nums_mem.1 hr)] at e
    obtain ⟨q, hq, e2⟩ := (cover_iff hin).1 s2 (backG g k) (by unfold backG; split <;> omega) ⟨r, hr, e⟩
    exact ⟨q, hq, by rw [drop_hits h hg (hin q hq)]; exact e2⟩
  rcases r3 _ s1 hc with q | q
  · omega
  · have := q.1; omega
end Go.Tk
/- The engine, part X: walks by hand, with stretches of the run. No conditions. -/
set_option linter.unusedSimpArgs false
set_option linter.unusedVariables false
namespace Go.Tk
open Go Go.RowKit

section
variable {P : Program} {B : Bs} {G : Nat → Gh} {m : Mem} {w w' w0 : World}

/-- As MRel.re, where no one ranges. -/
theorem MRel.re2 (hm : MRel P B G m w w0) (hit : ∀ k g l, m k = some (g, l) → l.isIt = false) {fo kb : Nat → Prop} {tv : Nat → Option Obj} {kv : Nat → Option Value} {ro : Option Nat} {lb : Nat} (hlb : lb ≤ w'.heap.size) (hos : w'.os = w.os) (htp : w'.tape = w.tape) (hout : w'.output = w.output) (hsz : w.heap.size ≤ w'.heap.size)
    (hc : ∀ b, isC w b → ¬ B.fo b → w'.heap[b]? = w.heap[b]?) (hl : ∀ b, b < B.n → w'.heap[b]? = w.heap[b]?) (hfo : ∀ b, b < w.heap.size → fo b → B.fo b) (hp : ∀ b, fo b ∨ kb b → b < w'.heap.size ∧ w'.heap[b]? = tv b)
    (ho : ∀ b, fo b ∨ kb b → b < w.heap.size → (B.fo b ∨ B.kb b) ∨ ∀ k g l, m k = some (g, l) → l.mut = true → ¬ ownL (G k) l b) :
    MRel P (B.wi fo kb tv kv ro lb) G m w' w0 ∧ ∀ {V : V} {v : Value}, ERep P B G m w V v → ERep P (B.wi fo kb tv kv ro lb) G m w' V v := by
  have hdS : ∀ f b, b < w.heap.size → dS B G m f b → dS (B.wi fo kb tv kv ro lb) G m f b := fun f b hlt h => ⟨h.1, h.2.1, fun hT => h.2.2 (hfo b hlt hT)⟩
  have hK : ∀ f, Keep (dS B G m f) w w' := fun f => ⟨hsz, fun b hb hS => hc b hb hS.2.2⟩
  have hcc : ∀ {t : T} {f : Bool} {y : t.den} {cs : List Value}, (reps P t).c w (dS B G m f) y cs → (reps P t).c w' (dS (B.wi fo kb tv kv ro lb) G m f) y cs := fun h => c_keep _ h (hK _) (hdS _)
  have hvv : ∀ {t : T} {y : t.den} {cs : List Value}, (reps P t).v w (dS B G m false) y cs [] → (reps P t).v w' (dS (B.wi fo kb tv kv ro lb) G m false) y cs [] := fun h => v_keep _ h (hK _) (hdS _)
  have hown : ∀ k g l b, m k = some (g, l) → l.mut = true → ownL (G k) l b → w'.heap[b]? = w.heap[b]? := by
    intro k g l b hk hmut e
    refine hc b ?_ fun hT => hm.frn.2 k g l b hk hmut e (.inl hT)
    rcases (hm.loc k g l hk).own_isC hmut e with h | ⟨A, ys, i, rfl⟩ | rfl
    · exact h
    · have := hit k g _ hk; cases this
    · have := hit k g _ hk; cases this
  refine ⟨⟨fun hlo => ?_, Nat.le_trans hm.base hsz, ?_, hm.inj, ⟨hp, ?_⟩, hlb⟩, ?_⟩
  · have := hm.low hlo
    exact ⟨hos.trans this.os, htp.trans this.tape, hout.trans this.output, Nat.le_trans this.size hsz, fun i hi => (hl i hi).trans (this.block i hi)⟩
  · intro k g l hk
    have hl := hm.loc k g l hk
    have hb := hown k g l
    cases l with
    | box f t x =>
      obtain ⟨b, cur, e, h1, h2, h3, h4, h5⟩ := hl
      exact ⟨b, cur, e, h1, h2, h3, (hb b hk rfl ⟨0, h1⟩).trans h4, hcc h5⟩
    | sl f t xs =>
      unfold LRep at hl ⊢
      exact hl.ext (fun b o e => hb b hk rfl ⟨o, e⟩) fun _ _ h' => hcc h'
    | fz f t xs =>
      unfold LRep at hl ⊢
      exact hcc hl
    | fb f t x =>
      obtain ⟨b, h1, h2⟩ := hl
      exact ⟨b, h1, hcc (t := .ref t) h2⟩
    | nl f t xss hh hole =>
      obtain ⟨vs, h1, h2, h3, h4, h5, h6, h7⟩ := hl
      exact ⟨vs, h1.ext (fun b o e => hb b hk rfl (.inl ⟨o, e⟩)) fun _ _ h => h, h2, h3, fun n xs hn hh => (h4 n xs hn hh).ext (fun b o e => hb b hk rfl (.inr ⟨n, o, e⟩)) fun _ _ h' => hcc h', h5, h6, h7⟩
    | mv => trivial
    | rg fr A ys i => trivial
    | it A ys i => have := hit k g _ hk; cases this
    | itx => have := hit k g _ hk; cases this
  · intro k g l b hk hmut e hb
    have hlt := ((hm.loc k g l hk).own_lt hmut e).1
    rcases ho b hb hlt with h | h
    · exact hm.frn.2 k g l b hk hmut e h
    · exact h k g l hk hmut e
  · intro V
    induction V with
    | any => intro v _; trivial
    | d f t x => rintro v ⟨cs, e, h⟩; exact ⟨cs, e, hcc h⟩
    | c v0 => intro v e; exact e
    | ptr k g p => intro v h; exact h
    | own k g => intro v h; exact h
    | sub k g lo hi => intro v h; exact h
    | inn k g h n => intro v h; exact h
    | ipt k g h n p => intro v h; exact h
    | ept f t x =>
      rintro v ⟨b, o, cs, e, h1, h2, h3, h4⟩
      exact ⟨b, o, cs, e, hdS f b h2 h1, Nat.lt_of_lt_of_le h2 hsz, h3.keep (fun hb => hc b hb h1.2.2), hcc h4⟩
    | fnc g t x => rintro v ⟨caps, e, hv⟩; exact ⟨caps, e, hvv hv⟩
    | bnd g t x => rintro v ⟨caps, e, hv⟩; exact ⟨caps, e, hvv hv⟩
    | ub p q => intro v h; exact h
    | yld => intro v h; exact h
    | tup n l ih => rintro v ⟨vs, e, hn, hv⟩; exact ⟨vs, e, hn, fun i u hu => ih i (hv i u hu)⟩

/-- The bounds of a walk by hand: kb: blocks that no one changes, as they are now. -/
abbrev hB (n : Nat) (S : Nat → Prop) (kv : Nat → Option Value) (kb : Nat → Prop) (tv : Nat → Option Obj) : Bs := { n := n, S := S, j := some dJ, kv := kv, kb := kb, tv := tv }

theorem Rel.re {n0 n : Nat} {S : Nat → Prop} {kv kv' : Nat → Option Value} {kb kb' : Nat → Prop} {tv : Nat → Option Obj} {st : St} {a : Act} (hR : Rel P (hB n0 S kv kb tv) w0 n st a w) (hit : ∀ k g l, st.loc k = some (g, l) → l.isIt = false)
    (hos : w'.os = w.os) (htp : w'.tape = w.tape) (hout : w'.output = w.output) (hsz : w.heap.size ≤ w'.heap.size) (hc : ∀ b, isC w b → w'.heap[b]? = w.heap[b]?) (hl : ∀ b, b < n0 → w'.heap[b]? = w.heap[b]?)
    (hkb : ∀ b, kb' b → b < w'.heap.size) (hk2 : ∀ b, kb' b → b < w.heap.size → kb b ∨ ¬ isC w b) (hkp : ∀ t v, kv' t = some v → a.tmps.getD t undef = v) : Rel P (hB n0 S kv' kb' fun b => w'.heap[b]?) w0 n st a w' := by
  obtain ⟨G, hm, he⟩ := hR.ex
  obtain ⟨r1, r2⟩ := hm.re2 (w' := w') hit (fo := fun _ => False) (kb := kb') (tv := fun b => w'.heap[b]?) (kv := kv') (ro := none) (lb := 0) (Nat.zero_le _) hos htp hout hsz (fun b hb _ => hc b hb) hl (fun _ _ h => h) (fun b h => by
    rcases h with h | h
    · exact h.elim
    · exact ⟨hkb b h, rfl⟩) (fun b h hlt => by
    rcases h with h | h
    · exact h.elim
    · rcases hk2 b h hlt with h | h
      · exact .inl (.inr h)
      · refine .inr fun k g l hk hmut e => h ?_
        rcases (hm.loc k g l hk).own_isC hmut e with h | ⟨A, ys, i, rfl⟩ | rfl
        · exact h
        · have := hit k g _ hk; cases this
        · have := hit k g _ hk; cases this)
  have hd := hR.nd.2 rfl
  exact ⟨⟨G, r1, fun t => r2 (he t)⟩, hR.sz, by rw [hd]; exact ⟨Marks.nil _ _, fun _ => rfl⟩, hkp⟩

theorem Rel.kept {n0 n : Nat} {S : Nat → Prop} {kv : Nat → Option Value} {kb : Nat → Prop} {tv : Nat → Option Obj} {st : St} {a : Act} (hR : Rel P (hB n0 S kv kb tv) w0 n st a w) {b : Nat} (hb : kb b) : w.heap[b]? = tv b := by
  obtain ⟨G, hm, he⟩ := hR.ex
  exact (hm.frn.1 b (.inr hb)).2
theorem Rel.kept_lt {n0 n : Nat} {S : Nat → Prop} {kv : Nat → Option Value} {kb : Nat → Prop} {tv : Nat → Option Obj} {st : St} {a : Act} (hR : Rel P (hB n0 S kv kb tv) w0 n st a w) {b : Nat} (hb : kb b) : b < w.heap.size := by
  obtain ⟨G, hm, he⟩ := hR.ex
  exact (hm.frn.1 b (.inr hb)).1
/-- As the world is now. -/
theorem Rel.now {n0 n : Nat} {S : Nat → Prop} {kv : Nat → Option Value} {kb : Nat → Prop} {tv : Nat → Option Obj} {st : St} {a : Act} (hR : Rel P (hB n0 S kv kb tv) w0 n st a w) (hit : ∀ k g l, st.loc k = some (g, l) → l.isIt = false) : Rel P (hB n0 S kv kb fun b => w.heap[b]?) w0 n st a w :=
  hR.re hit rfl rfl rfl (Nat.le_refl _) (fun _ _ => rfl) (fun _ _ => rfl) (fun _ h => hR.kept_lt h) (fun _ h _ => .inl h) hR.kp
theorem Rel.low {n0 n : Nat} {S : Nat → Prop} {kv : Nat → Option Value} {kb : Nat → Prop} {tv : Nat → Option Obj} {st : St} {a : Act} (hR : Rel P (hB n0 S kv kb tv) w0 n st a w) : Below n0 w0 w := by
  obtain ⟨G, hm, he⟩ := hR.ex
  exact hm.low rfl

/-- Other temporaries. -/
theorem rel_env {n0 n : Nat} {S : Nat → Prop} {kv kv' : Nat → Option Value} {kb : Nat → Prop} {tv : Nat → Option Obj} {E E' : List (Nat × V)} {M : List (Nat × Tk.L)} {a a' : Act} (hR : Rel P (hB n0 S kv kb tv) w0 n (mkSt (E, M)) a w) (hsz : a'.tmps.size = n) (hd : a'.defers = [])
    (hkp : ∀ t v, kv' t = some v → a'.tmps.getD t undef = v)
    (hE : ∀ t U, lk E' t = some U → (lk E t = some U ∧ a'.tmps.getD t undef = a.tmps.getD t undef) ∨ ∀ G, MRel P (hB n0 S kv' kb tv) G (mkLoc M) w w0 → ERep P (hB n0 S kv' kb tv) G (mkLoc M) w U (a'.tmps.getD t undef)) :
    Rel P (hB n0 S kv' kb tv) w0 n (mkSt (E', M)) a' w := by
  obtain ⟨G, hm, he⟩ := hR.ex
  have hm' : MRel P (hB n0 S kv' kb tv) G (mkLoc M) w w0 := ⟨hm.low, hm.base, fun k g l hk => by
    have := hm.loc k g l hk
    cases l <;> exact this, hm.inj, hm.frn, hm.lbd⟩
  refine ⟨⟨G, hm', fun t => ?_⟩, hsz, by rw [hd]; exact ⟨Marks.nil _ _, fun _ => rfl⟩, hkp⟩
  show ERep P _ G (mkLoc M) w (match lk E' t with | some v => v | none => .any) _
  cases hl : lk E' t with
  | none => trivial
  | some U =>
    rcases hE t U hl with ⟨h1, h2⟩ | h
    · have h3 := he t
      have h4 : (mkSt (E, M)).env t = U := by
        show (match lk E t with | some v => v | none => .any) = U
        rw [h1]
      rw [h4] at h3
      rw [h2]
      have key : ∀ (U : Tk.V) (v : Value), ERep P (hB n0 S kv kb tv) G (mkLoc M) w U v → ERep P (hB n0 S kv' kb tv) G (mkLoc M) w U v := by
        intro U
        induction U with
        | tup n l ih => rintro v ⟨vs, e, hn, hv⟩; exact ⟨vs, e, hn, fun i u hu => ih i _ (hv i u hu)⟩
        | _ => intro v h; exact h
      exact key U _ h3
    · exact h G hm'

/-- A new variable, that is written to no more. -/
theorem rel_box {n0 n : Nat} {S : Nat → Prop} {kv : Nat → Option Value} {kb : Nat → Prop} {tv : Nat → Option Obj} {E E' : List (Nat × Tk.V)} {M : List (Nat × Tk.L)} {a a' : Act} (hR : Rel P (hB n0 S kv kb tv) w0 n (mkSt (E, M)) a w) (hit : ∀ k g l, (mkSt (E, M)).loc k = some (g, l) → l.isIt = false)
    {d : Nat} {t : T} {x : t.den} {cs : List Value} {ty : TypeId} (hcs : ∀ W S', (reps P t).c W S' x cs) (hsz : a'.tmps.size = n) (hd : a'.defers = []) (hkp : ∀ t v, kv t = some v → a'.tmps.getD t undef = v) (hdv : a'.tmps.getD d undef = .pointer (some ⟨w.heap.size, 0, none⟩))
    (hE : ∀ t' U, lk E' t' = some U → (lk E t' = some U ∧ a'.tmps.getD t' undef = a.tmps.getD t' undef) ∨ (t' = d ∧ U = .ept true t x) ∨ ∀ B G m w, ERep P B G m w U (a'.tmps.getD t' undef)) :
    Rel P (hB n0 S kv kb fun b => (w.alloc (.cells cs.toArray ty)).heap[b]?) w0 n (mkSt (E', M)) a' (w.alloc (.cells cs.toArray ty)) := by
  have hkv := hR.kp
  obtain ⟨G, hm, he⟩ := hR.ex
  have hbel : Below w.heap.size w (w.alloc (.cells cs.toArray ty)) := (Below.refl _ w).alloc (Nat.le_refl _) _
  obtain ⟨r1, r2⟩ := hm.re2 (w' := w.alloc (.cells cs.toArray ty)) hit (fo := fun _ => False) (kb := kb) (tv := fun b => (w.alloc (.cells cs.toArray ty)).heap[b]?) (kv := kv) (ro := none) (lb := 0) (Nat.zero_le _) rfl rfl rfl (by simp) (fun b hb _ => hbel.block b hb.lt) (fun b hb => hbel.block b (Nat.lt_of_lt_of_le hb hm.base)) (fun _ _ h => h) (fun b h => by
    rcases h with h | h
    · exact h.elim
    · have := (hm.frn.1 b (.inr h)).1
      exact ⟨by simp; omega, rfl⟩) (fun b h hlt => by
    rcases h with h | h
    · exact h.elim
    · exact .inl (.inr h))
  refine ⟨⟨G, r1, fun t' => ?_⟩, hsz, by rw [hd]; exact ⟨Marks.nil _ _, fun _ => rfl⟩, hkp⟩
  show ERep P _ G (mkLoc M) _ (match lk E' t' with | some v => v | none => .any) _
  cases hl : lk E' t' with
  | none => trivial
  | some U =>
    rcases hE t' U hl with ⟨h1, h2⟩ | ⟨rfl, rfl⟩ | h
    · have h3 := he t'
      have h4 : (mkSt (E, M)).env t' = U := by
        show (match lk E t' with | some v => v | none => .any) = U
        rw [h1]
      rw [h4] at h3
      rw [h2]
      exact r2 h3
    · rw [hdv]
      refine ⟨w.heap.size, 0, cs, rfl, ⟨⟨fun _ => hm.base, .inl hm.base⟩, fun k g l hk hmut e => ?_, fun h => h⟩, by simp, ?_, hcs _ _⟩
      · have := ((hm.loc k g l hk).own_lt hmut e).1
        omega
      · intro j v hj
        simp only [World.cell?, heap_alloc_new]
        simpa using hj
    · exact h _ _ _ _

/-- Behind calls and new variables: what was known, and what lies in new blocks. -/
theorem rel_new {n0 n : Nat} {S : Nat → Prop} {kv kv' : Nat → Option Value} {kb : Nat → Prop} {tv : Nat → Option Obj} {E E' : List (Nat × Tk.V)} {M : List (Nat × Tk.L)} {a a' : Act} (hR : Rel P (hB n0 S kv kb tv) w0 n (mkSt (E, M)) a w) (hit : ∀ k g l, (mkSt (E, M)).loc k = some (g, l) → l.isIt = false)
    (hbel : Below w.heap.size w w') (hsz : a'.tmps.size = n) (hd : a'.defers = []) (hkp : ∀ t v, kv' t = some v → a'.tmps.getD t undef = v)
    (hE : ∀ t U, lk E' t = some U → (∃ t2, lk E t2 = some U ∧ a'.tmps.getD t undef = a.tmps.getD t2 undef) ∨ ∀ G, (∀ b, w.heap.size ≤ b → dS (hB n0 S kv' kb fun b => w'.heap[b]?) G (mkLoc M) true b) → ERep P (hB n0 S kv' kb fun b => w'.heap[b]?) G (mkLoc M) w' U (a'.tmps.getD t undef)) :
    Rel P (hB n0 S kv' kb fun b => w'.heap[b]?) w0 n (mkSt (E', M)) a' w' := by
  obtain ⟨G, hm, he⟩ := hR.ex
  obtain ⟨r1, r2⟩ := hm.re2 (w' := w') hit (fo := fun _ => False) (kb := kb) (tv := fun b => w'.heap[b]?) (kv := kv') (ro := none) (lb := 0) (Nat.zero_le _) hbel.os hbel.tape hbel.output hbel.size (fun b hb _ => hbel.block b hb.lt) (fun b hb => hbel.block b (Nat.lt_of_lt_of_le hb hm.base)) (fun _ _ h => h) (fun b h => by
    rcases h with h | h
    · exact h.elim
    · exact ⟨Nat.lt_of_lt_of_le (hm.frn.1 b (.inr h)).1 hbel.size, rfl⟩) (fun b h hlt => by
    rcases h with h | h
    · exact h.elim
    · exact .inl (.inr h))
  refine ⟨⟨G, r1, fun t' => ?_⟩, hsz, by rw [hd]; exact ⟨Marks.nil _ _, fun _ => rfl⟩, hkp⟩
  show ERep P _ G (mkLoc M) _ (match lk E' t' with | some v => v | none => .any) _
  cases hl : lk E' t' with
  | none => trivial
  | some U =>
    rcases hE t' U hl with ⟨t2, h1, h2⟩ | h
    · have h3 := he t2
      have h4 : (mkSt (E, M)).env t2 = U := by
        show (match lk E t2 with | some v => v | none => .any) = U
        rw [h1]
      rw [h4] at h3
      rw [h2]
      exact r2 h3
    · refine h G fun b hb => ⟨⟨fun _ => Nat.le_trans hm.base hb, .inl (Nat.le_trans hm.base hb)⟩, fun k g l hk hmut e => ?_, fun h => h⟩
      have := ((hm.loc k g l hk).own_lt hmut e).1
      omega
/-- Nothing is known. -/
theorem rel_zero {n : Nat} {S : Nat → Prop} {kv : Nat → Option Value} {kb : Nat → Prop} {a : Act} (hsz : a.tmps.size = n) (hd : a.defers = []) (hkp : ∀ t v, kv t = some v → a.tmps.getD t undef = v) (hkb : ∀ b, kb b → b < w.heap.size) :
    Rel P (hB w.heap.size S kv kb fun b => w.heap[b]?) w n (mkSt ([], [])) a w :=
  ⟨⟨fun _ => gh undef none, ⟨fun _ => Below.refl _ _, Nat.le_refl _, fun k g l hk => (by cases hk), fun k k' g g' l l' b hk => (by cases hk), ⟨fun b h => by
    rcases h with h | h
    · exact h.elim
    · exact ⟨hkb b h, rfl⟩, fun k g l b hk => (by cases hk)⟩, Nat.zero_le _⟩, fun t => trivial⟩, hsz, by rw [hd]; exact ⟨Marks.nil _ _, fun _ => rfl⟩, hkp⟩
/-- A datum's value. -/
theorem rel_d {n0 n : Nat} {S : Nat → Prop} {kv : Nat → Option Value} {kb : Nat → Prop} {tv : Nat → Option Obj} {E : List (Nat × Tk.V)} {M : List (Nat × Tk.L)} {a : Act} (hR : Rel P (hB n0 S kv kb tv) w0 n (mkSt (E, M)) a w) {d : Nat} {f : Bool} {t : T} {x : t.den} (h : lk E d = some (.d f t x)) :
    ∃ (cs : List Value) (S' : Nat → Prop), a.tmps.getD d undef = mkV t cs ∧ (reps P t).c w S' x cs := by
  obtain ⟨G, hm, he⟩ := hR.ex
  have h3 := he d
  have h4 : (mkSt (E, M)).env d = .d f t x := by
    show (match lk E d with | some v => v | none => .any) = _
    rw [h]
  rw [h4] at h3
  obtain ⟨cs, e, hc⟩ := h3
  exact ⟨cs, _, e, hc⟩
theorem rel_int {n0 n : Nat} {S : Nat → Prop} {kv : Nat → Option Value} {kb : Nat → Prop} {tv : Nat → Option Obj} {E : List (Nat × Tk.V)} {M : List (Nat × Tk.L)} {a : Act} (hR : Rel P (hB n0 S kv kb tv) w0 n (mkSt (E, M)) a w) {d : Nat} {f : Bool} {x : Int} (h : lk E d = some (.d f .int x)) : a.tmps.getD d undef = .int .i64 x ∧ inI x := by
  obtain ⟨cs, S', e, hc, hi⟩ := rel_d hR h
  subst hc
  exact ⟨e, hi⟩
theorem rel_bool {n0 n : Nat} {S : Nat → Prop} {kv : Nat → Option Value} {kb : Nat → Prop} {tv : Nat → Option Obj} {E : List (Nat × Tk.V)} {M : List (Nat × Tk.L)} {a : Act} (hR : Rel P (hB n0 S kv kb tv) w0 n (mkSt (E, M)) a w) {d : Nat} {f : Bool} {x : Bool} (h : lk E d = some (.d f .bool x)) : a.eval (.tmp d) = .bool x := by
  obtain ⟨cs, S', e, hc⟩ := rel_d hR h
  have hc : cs = [.bool x] := hc
  subst hc
  exact e

/-- The beginning of a function. -/
theorem rel_start {A : T} {x : A.den} {vs : List Value} {S : Nat → Prop} {n : Nat} (hA : (isTup A && Nat.ble (arity A) n) = true) (hv : (reps P A).v w S x vs []) :
    Rel P (hB w.heap.size S (fun _ => none) (fun _ => False) fun b => w.heap[b]?) w n (mkSt (argE A x 0, [])) { tmps := vs.toArray ++ Array.replicate (n - vs.toArray.size) undef, defers := [] } w := by
  rw [Bool.and_eq_true] at hA
  have hle := Nat.le_of_ble_eq_true hA.2
  let G : Nat → Gh := fun _ => gh undef none
  obtain ⟨i1, i2, i3⟩ := argE_ok (S' := dS (hB w.heap.size S (fun _ => none) (fun _ => False) fun b => w.heap[b]?) G (mkLoc []) false) (fun b hb => ⟨⟨fun e => (by cases e), .inr hb⟩, fun k g l hk => by simp [mkLoc, lk] at hk, fun h => h⟩) A x vs 0 hA.1 hv
  refine ⟨⟨G, ⟨fun _ => Below.refl _ _, Nat.le_refl _, fun k g l hk => by simp [mkSt, mkLoc, lk] at hk, fun k k' g g' l l' b hk => by simp [mkSt, mkLoc, lk] at hk, ⟨fun b h => by rcases h with h | h <;> exact h.elim, fun k g l b hk => by simp [mkSt, mkLoc, lk] at hk⟩, Nat.zero_le _⟩, fun t => ?_⟩, by simp; omega, ⟨Marks.nil _ _, fun _ => rfl⟩, fun t v e => by cases e⟩
  show ERep P _ G (mkLoc []) w (match lk (argE A x 0) t with | some v => v | none => .any) _
  split
  · rename_i V e
    obtain ⟨_, v, f', a, y, cs, j1, rfl, rfl, j4, rfl⟩ := i3 t V e
    refine ⟨cs, ?_, j4⟩
    have hlt : t < vs.length := (List.getElem?_eq_some_iff.1 j1).1
    have j1 : vs[t]? = some (mkV a cs) := j1
    have e1 : (vs.toArray ++ Array.replicate (n - vs.toArray.size) undef)[t]? = some (mkV a cs) := by
      rw [Array.getElem?_append_left (by simpa using hlt)]
      simpa using j1
    simp only [Array.getD_eq_getD_getElem?, e1, Option.getD_some]
  · trivial

/-- The run from here to a label; what follows is by hand. -/
theorem eng_to {cx : Cx} (hk : Cok P cx) (hmix : P.follows .mixedOrders = true) (hx : cx.X.itf = none) (hpn : cx.X.pan = none) {code : Code} {n0 : Nat} {S : Nat → Prop} {kv : Nat → Option Value} {kb : Nat → Prop} {tv : Nat → Option Obj} {st : St} {a : Act} {Q : Exit → Act → World → Prop} (ly : List (Pth × Lay))
    (hR : Rel P (hB n0 S kv kb tv) w0 cx.n st a w) (hok : (okC cx.n code && noRF code) = true) (hkv : ∀ t ∈ wrs code, kv t = none)
    (h : ∀ Λ : Pth → Lst → Prop, Λ = Sem P (hB n0 S kv kb tv) w0 cx.n code Q → Wl cx (LyL ly) Λ code (fun _ _ => False) st) : code.wpIn (Fw none) 0 P Q a w := by
  rw [Bool.and_eq_true] at hok
  have := (sound hk hmix code (hB n0 S kv kb tv) w0 (LyL ly) (fun _ _ => False) Q hok.1 ⟨hkv, .inl hok.2, fun fr e => (by rw [hx] at e; cases e), .inl hpn⟩ (fun e st a w h => h.elim) fun p hp => by rw [hpn] at hp; cases hp).1 st a w (h _ rfl) hR
  exact this
/-- The run through a stretch of code without loops. -/
theorem eng_thru {cx : Cx} (hk : Cok P cx) (hmix : P.follows .mixedOrders = true) (hx : cx.X.itf = none) (hpn : cx.X.pan = none) {code : Code} {n0 : Nat} {S : Nat → Prop} {kv : Nat → Option Value} {kb : Nat → Prop} {tv : Nat → Option Obj} {st : St} {a : Act} {Q : Exit → Act → World → Prop} (ly : Lay) (x : Lst)
    (hR : Rel P (hB n0 S kv kb tv) w0 cx.n st a w) (hok : (okC cx.n code && noRF code) = true) (hkv : ∀ t ∈ wrs code, kv t = none)
    (h : Wl cx (fun _ => none) (fun _ _ => False) code (fun e st => match e with | .normal => canK ly (fun y => y = x) st | _ => False) st) (hQ : ∀ a w, Rel P (hB n0 S kv kb tv) w0 cx.n (mkSt x) a w → Q .normal a w) : code.wpIn (Fw none) 0 P Q a w := by
  rw [Bool.and_eq_true] at hok
  have hs := sound hk hmix code (hB n0 S kv kb tv) w0 (fun _ => none) (fun e st => match e with | .normal => canK ly (fun y => y = x) st | _ => False) Q hok.1 ⟨hkv, .inl hok.2, fun fr e => (by rw [hx] at e; cases e), .inl hpn⟩ (fun e st a w h hR => by
    cases e <;> first | exact h.elim | skip
    obtain ⟨y, rfl, hR2⟩ := canK_ok h hR
    exact hQ a w hR2) fun p hp => by rw [hpn] at hp; cases hp
  refine hs.1 st a w ?_ hR
  exact Wl_mono _ _ _ _ _ _ _ (fun _ _ h => h.elim) (fun _ _ h => h) h

/-- An own slice, for a result. -/
theorem rel_own {n0 n : Nat} {S : Nat → Prop} {kv : Nat → Option Value} {kb : Nat → Prop} {tv : Nat → Option Obj} {E : List (Nat × V)} {M : List (Nat × Tk.L)} {a : Act} (hR : Rel P (hB n0 S kv kb tv) w0 n (mkSt (E, M)) a w) {d k : Nat} {t : T} {xs : List t.den}
    (hE : lk E d = some (.own k 0)) (hM : lk M k = some (.sl true t xs)) : ∃ ob : Option (Nat × Nat), repOwn ((reps P t).c w fun b => n0 ≤ b ∧ ¬ b ∈ (ob.map (·.1)).toList) t.csize w (fun _ => True) xs (a.tmps.getD d undef) ob ∧ ∀ b ∈ (ob.map (·.1)).toList, n0 ≤ b := by
  obtain ⟨G, hm, he⟩ := hR.ex
  have hl : mkLoc M k = some (0, .sl true t xs) := by
    show (match lk M k with | some l => some (0, l) | none => none) = _
    rw [hM]
  have h1 := he d
  have h2 : (mkSt (E, M)).env d = .own k 0 := by
    show (match lk E d with | some v => v | none => .any) = _
    rw [hE]
  rw [h2] at h1
  obtain ⟨g', l, q1, _, q2⟩ := h1
  have q1 : mkLoc M k = some (g', l) := q1
  rw [hl] at q1
  cases q1
  have h3 : a.tmps.getD d undef = (G k).hdr := q2 rfl
  have h4 : repOwn ((reps P t).c w (dS (hB n0 S kv kb tv) G (mkLoc M) true)) t.csize w (fun b => n0 ≤ b) xs (G k).hdr (G k).blk := hm.loc k 0 _ hl
  rw [h3]
  refine ⟨(G k).blk, ?_, ?_⟩
  · rcases h4 with h4 | ⟨b, off, cap, cur, e, g1, g2, g3, g4, g5, g6, g7, g8⟩
    · exact .inl h4
    · refine .inr ⟨b, off, cap, cur, e, g1, g2, trivial, g4, g5, g6, g7, repL_mono (fun _ _ h => c_mono _ h fun b' _ hb => ⟨hb.1.1 rfl, fun hin => ?_⟩) _ _ g8⟩
      rw [g1] at hin
      simp at hin
      exact hb.2.1 k 0 _ hl rfl ⟨off, by rw [g1, hin]⟩
  · intro b hb
    rcases h4 with ⟨_, _, h4⟩ | ⟨b', off, cap, cur, e, g1, g2, g3, g4, g5, g6, g7, g8⟩
    · rw [h4] at hb; simp at hb
    · rw [g1] at hb
      simp at hb
      rw [hb]; exact g3

/-! ### A region's operations, in their order -/
variable {ops : Array Oper} {Q : Exit → Act → World → Prop} {rest : List Nat} {a : Act}
theorem sp_val {k : Nat} {o : Oper} {v : Value} {w1 : World} (ho : ops[k]? = some o) (hg : o.guard = none) (hr : (execOp a.eval o).run P w = .ok (.value v) w1) (h : wpOpsIn (Fw none) 0 P ops Q rest (a.put o.dst v) w1) :
    wpOpsIn (Fw none) 0 P ops Q (k :: rest) a w := by
  rw [wpOpsIn_cons]
  have hw : Region.wanted o (yielded ops a.tmps) = true := by unfold Region.wanted; rw [hg]
  unfold wpOpIn
  rw [ho]
  simp only [hw, if_true]
  refine ⟨fun _ _ => trivial, ?_⟩
  show Oper.uponIn (Fw none) 0 P o a _ Q ((o.semAt none a.eval).run P w)
  rw [Oper.semAt_none, hr]
  exact upon_in h
theorem sp_call {k : Nat} {o : Oper} {f : FuncId} {args : Array Value} (ho : ops[k]? = some o) (hg : o.guard = none) (hr : (execOp a.eval o).run P w = .ok (.enter f args) w)
    (h : Calls P f args w fun e w1 => ∃ v, e = .returned v ∧ wpOpsIn (Fw none) 0 P ops Q rest (a.put o.dst v) w1) : wpOpsIn (Fw none) 0 P ops Q (k :: rest) a w := by
  rw [wpOpsIn_cons]
  have hw : Region.wanted o (yielded ops a.tmps) = true := by unfold Region.wanted; rw [hg]
  unfold wpOpIn
  rw [ho]
  simp only [hw, if_true]
  refine ⟨fun _ _ => trivial, ?_⟩
  show Oper.uponIn (Fw none) 0 P o a _ Q ((o.semAt none a.eval).run P w)
  rw [Oper.semAt_none, hr]
  refine upon_in (r := .ok (.enter f args) w) ?_
  refine Calls.mono h ?_
  rintro e w1 ⟨v, rfl, h⟩
  exact h

/-- A stretch of a region by the run. -/
theorem stretch_wp {cx : Cx} (hk : Cok P cx) {st : St} (hR : Rel P B w0 cx.n st a w) (hro : B.ro = none) (k c : Nat) (hkv : ∀ o ∈ (ops.toList.drop k).take c, ∀ d, o.dst = some d → B.kv d = none) (hd : dstsOK cx.n ((ops.toList.drop k).take c) = true) (hlen : ((ops.toList.drop k).take c).length = c)
    {Φ : St → Prop} (h : runG cx ops.toList ((ops.toList.drop k).take c) st [] fun st _ => Φ st) (hQ : ∀ st a w, Φ st → Rel P B w0 cx.n st a w → wpOpsIn (Fw none) 0 P ops Q rest a w) : wpOpsIn (Fw none) 0 P ops Q (List.range' k c ++ rest) a w := by
  obtain ⟨τ, _, h⟩ := runL_lex (R := Real P B w0 cx.n) (Pd := fun o => ∀ d, o.dst = some d → B.kv d = none) (fun st o e tu hp => real_yop hk hp) _ st [] 0 (fun _ => ([], [])) hkv ⟨a, w, hR⟩ hd rfl (runL_of_runG _ _ _ _ h)
  have key : ∀ (l : List Oper) (k : Nat) (st : St) (a : Act) (w : World), (∀ o ∈ l, ∀ d, o.dst = some d → B.kv d = none) → (∀ j, j < l.length → l[j]? = ops.toList[k + j]?) → Rel P B w0 cx.n st a w → lexA cx ops.toList τ (fun st => Φ st) l (0 + (k - k)) st ∨ True → True := fun _ _ _ _ _ _ _ _ _ => trivial
  clear key
  have key : ∀ (l : List Oper) (k i : Nat) (st : St) (a : Act) (w : World), (∀ o ∈ l, ∀ d, o.dst = some d → B.kv d = none) → (∀ j, j < l.length → l[j]? = ops.toList[k + j]?) → Rel P B w0 cx.n st a w → lexA cx ops.toList τ (fun st => Φ st) l i st → wpOpsIn (Fw none) 0 P ops Q (List.range' k l.length ++ rest) a w := by
    intro l
    induction l with
    | nil => intro k i st a w _ _ hR h; exact hQ _ _ _ h hR
    | cons o l ih =>
      intro k i st a w hkv hl hR h
      obtain ⟨e, hy, h⟩ := h
      rw [List.length_cons, List.range'_succ, List.cons_append, wpOpsIn_cons]
      have ho : ops.toList[k]? = some o := by simpa using (hl 0 (by simp)).symm
      have ho2 : ops.toList.toArray[k]? = some o := by simpa using ho
      have := yop_wp hk (Q := Q) (hkv o (by simp)) hR hy ho2 (K := fun a w => wpOpsIn (Fw none) 0 P ops Q (List.range' (k + 1) l.length ++ rest) a w) fun a' w' hR' => ih (k + 1) (i + 1) _ _ _ (fun o ho => hkv o (by simp [ho])) (fun j hj => by
        have := hl (j + 1) (by simp; omega)
        simpa [Nat.add_assoc, Nat.add_comm 1 j] using this) hR' h
      rw [hro] at this
      simpa using this
  have := key ((ops.toList.drop k).take c) k 0 st a w hkv (fun j hj => by
    rw [List.getElem?_take, List.getElem?_drop]
    rw [hlen] at hj
    rw [if_pos hj]) hR h
  rw [hlen] at this
  exact this

/-! ### Loops -/
theorem loop_upX {F : Fence} {c : Code} {n : Nat} (A : Nat → Act → World → Prop) (last : ∀ a W, A n a W → c.wpIn F 0 P (Exit.then (fun _ _ => False) Q) a W)
    (step : ∀ m a W, m < n → A m a W → c.wpIn F 0 P (Exit.then (A (m + 1)) Q) a W) : ∀ m, m ≤ n → ∀ a W, A m a W → LoopAt F P c Q a W := by
  have key : ∀ d m, m + d = n → ∀ a W, A m a W → LoopAt F P c Q a W := by
    intro d
    induction d with
    | zero =>
      intro m hm a W h
      obtain rfl : m = n := by omega
      refine loopAt_round (wpIn_mono (last a W h) fun e a' W' he => ?_)
      cases e <;> first | exact he.elim | exact he
    | succ d ih =>
      intro m hm a W h
      refine loopAt_round (wpIn_mono (step m a W (by omega) h) fun e a' W' he => ?_)
      cases e <;> first | exact ih (m + 1) (by omega) _ _ he | exact he
  exact fun m hm a W h => key (n - m) m (by omega) a W h
theorem loop_downX {F : Fence} {c : Code} (A : Nat → Act → World → Prop) (step : ∀ m a W, A m a W → c.wpIn F 0 P (Exit.then (fun a W => ∃ m', m' < m ∧ A m' a W) Q) a W) : ∀ m a W, A m a W → LoopAt F P c Q a W := by
  intro m
  induction m using Nat.strongRecOn with
  | ind m ih =>
    intro a W h
    refine loopAt_round (wpIn_mono (step m a W h) fun e a' W' he => ?_)
    cases e <;> first | (obtain ⟨m', h1, h2⟩ := he; exact ih m' h1 _ _ h2) | exact he
/-! ### Regions, one operation after another, by hand -/
def ql (P : Program) : List Oper → (Act → World → Prop) → (Exit → Act → World → Prop) → Act → World → Prop
  | [], K, _, a, w => K a w
  | o :: l, K, Q, a, w => o.upon P a (fun a' w' => ql P l K Q a' w') Q ((execOp a.eval o).run P w)
theorem ql_mono {P : Program} {o : Oper} {a : Act} {K K' : Act → World → Prop} {Q : Exit → Act → World → Prop} {r : Result Next} (h : ∀ a w, K a w → K' a w) (hr : o.upon P a K Q r) : o.upon P a K' Q r := by
  cases r with
  | halt x w => cases x <;> exact hr
  | ok x w =>
    cases x <;> simp only [Oper.upon] at hr ⊢
    case value v => exact h _ _ hr
    case skip => exact h _ _ hr
    case defer d => exact h _ _ hr
    case enter f args =>
      refine hr.mono ?_
      intro e w' he
      cases e with
      | returned v => exact h _ _ he
      | panicked c => exact he
      | outgrown => exact he
    case row row args =>
      intro c cs
      obtain ⟨v, w', hv, hs⟩ := hr c cs
      exact ⟨v, w', h _ _ hv, hs⟩
theorem ql_ops {P : Program} {ops : List Oper} {Q : Exit → Act → World → Prop} : ∀ (l : List Oper) (k : Nat) (a : Act) (w : World), (∀ j, l[j]? = ops[k + j]?) → (∀ o ∈ l, o.guard = none) → ql P l (Q .normal) Q a w →
    wpOpsIn (Fw none) 0 P ops.toArray Q (List.range' k l.length) a w
  | [], k, a, w, _, _, h => by
    have h : Q .normal a w := h
    simpa [wpOpsIn] using h
  | o :: l, k, a, w, hl, hg, h => by
    rw [List.length_cons, List.range'_succ, wpOpsIn_cons]
    have ho : ops[k]? = some o := by simpa using (hl 0).symm
    have hl' : ∀ j, l[j]? = ops[k + 1 + j]? := fun j => by have := hl (j + 1); simpa [Nat.add_assoc, Nat.add_comm 1 j] using this
    have hw : Region.wanted o (yielded ops.toArray a.tmps) = true := by unfold Region.wanted; rw [hg o (by simp)]
    unfold wpOpIn
    rw [show ops.toArray[k]? = some o by simpa using ho]
    simp only [hw, if_true]
    refine ⟨fun _ _ => trivial, ?_⟩
    show Oper.uponIn (Fw none) 0 P o a _ Q ((o.semAt none a.eval).run P w)
    rw [Oper.semAt_none]
    exact upon_in (ql_mono (fun a' w' h' => ql_ops l (k + 1) a' w' hl' (fun q hq => hg q (by simp [hq])) h') h)
theorem ql_region {P : Program} {ops : Array Oper} {id : Nat} {Q : Exit → Act → World → Prop} {a : Act} {w : World} (hg : (ops.toList.all fun o => o.guard.isNone) = true) (h : ql P ops.toList (Q .normal) Q a w) : (Code.region id ops false).wpIn (Fw none) 0 P Q a w := by
  refine wpIn_region ?_
  have := ql_ops (P := P) (ops := ops.toList) (Q := Q) ops.toList 0 a w (by simp) (fun o ho => by simpa using List.all_eq_true.1 hg o ho) h
  simpa [List.range_eq_range'] using this


/-- The first operations by hand, the others as wpOpsIn. -/
theorem ql_pre {P : Program} {ops : Array Oper} {id : Nat} {Q : Exit → Act → World → Prop} {a : Act} {w : World} (c : Nat) (hc : c ≤ ops.size) (hg : ((ops.toList.take c).all fun o => o.guard.isNone) = true) (h : ql P (ops.toList.take c) (fun a w => wpOpsIn (Fw none) 0 P ops Q (List.range' c (ops.size - c)) a w) Q a w) : (Code.region id ops false).wpIn (Fw none) 0 P Q a w := by
  refine wpIn_region ?_
  have key : ∀ (l : List Oper) (k : Nat) (a : Act) (w : World), k + l.length = c → (∀ j, j < l.length → l[j]? = ops[k + j]?) → (∀ o ∈ l, o.guard = none) → ql P l (fun a w => wpOpsIn (Fw none) 0 P ops Q (List.range' c (ops.size - c)) a w) Q a w →
      wpOpsIn (Fw none) 0 P ops Q (List.range' k l.length ++ List.range' c (ops.size - c)) a w := by
    intro l
    induction l with
    | nil => intro k a w _ _ _ h; exact h
    | cons o l ih =>
      intro k a w hk hl hg h
      rw [List.length_cons, List.range'_succ, List.cons_append, wpOpsIn_cons]
      have ho : ops[k]? = some o := by simpa using (hl 0 (by simp)).symm
      have hw : Region.wanted o (yielded ops a.tmps) = true := by unfold Region.wanted; rw [hg o (by simp)]
      unfold wpOpIn
      rw [ho]
      simp only [hw, if_true]
      refine ⟨fun _ _ => trivial, ?_⟩
      show Oper.uponIn (Fw none) 0 P o a _ Q ((o.semAt none a.eval).run P w)
      rw [Oper.semAt_none]
      exact upon_in (ql_mono (fun a' w' h' => ih (k + 1) a' w' (by simp only [List.length_cons] at hk; omega) (fun j hj => by
        have := hl (j + 1) (by simp; omega)
        simpa [Nat.add_assoc, Nat.add_comm 1 j] using this) (fun q hq => hg q (by simp [hq])) h') h)
  have hlen : (ops.toList.take c).length = c := by rw [List.length_take, Array.length_toList]; exact Nat.min_eq_left hc
  have := key (ops.toList.take c) 0 a w (by omega) (fun j hj => by
    rw [hlen] at hj
    rw [List.getElem?_take, if_pos hj]
    simp) (fun o ho => by simpa using List.all_eq_true.1 hg o ho) h
  rw [hlen] at this
  have e : List.range' 0 c ++ List.range' c (ops.size - c) = List.range ops.size := by
    rw [List.range_eq_range']
    have := List.range'_append_1 (s := 0) (m := c) (n := ops.size - c)
    rw [Nat.zero_add] at this
    rw [this]
    congr 1
    omega
  rw [e] at this
  exact this
end
end Go.Tk
/- Suites copied, by hand: the rows lie in memory of their own. -/
set_option linter.unusedSimpArgs false
set_option linter.unusedVariables false
set_option linter.unnecessarySimpa false
set_option maxRecDepth 10000
set_option maxHeartbeats 1000000
namespace Go.Tk
open Go Go.RowKit
/-! ### Regions with guards, by hand -/
def qlg (P : Program) (ops : Array Oper) : List Oper → (Act → World → Prop) → (Exit → Act → World → Prop) → Act → World → Prop
  | [], K, _, a, w => K a w
  | o :: l, K, Q, a, w => if Region.wanted o (yielded ops a.tmps) = true then o.upon P a (fun a' w' => qlg P ops l K Q a' w') Q ((execOp a.eval o).run P w) else qlg P ops l K Q (a.put o.dst undef) w
theorem qlg_ops {P : Program} {ops : Array Oper} {Q : Exit → Act → World → Prop} : ∀ (l : List Oper) (k : Nat) (a : Act) (w : World), (∀ j, l[j]? = ops[k + j]?) → qlg P ops l (Q .normal) Q a w →
    wpOpsIn (Fw none) 0 P ops Q (List.range' k l.length) a w
  | [], k, a, w, _, h => by
    have h : Q .normal a w := h
    simpa [wpOpsIn] using h
  | o :: l, k, a, w, hl, h => by
    rw [List.length_cons, List.range'_succ, wpOpsIn_cons]
    have ho : ops[k]? = some o := by simpa using (hl 0).symm
    have hl' : ∀ j, l[j]? = ops[k + 1 + j]? := fun j => by have := hl (j + 1); simpa [Nat.add_assoc, Nat.add_comm 1 j] using this
    unfold wpOpIn
    rw [ho]
    simp only [qlg] at h
    split at h
    · rename_i hw
      simp only [hw, if_true]
      refine ⟨fun _ _ => trivial, ?_⟩
      show Oper.uponIn (Fw none) 0 P o a _ Q ((o.semAt none a.eval).run P w)
      rw [Oper.semAt_none]
      exact upon_in (ql_mono (fun a' w' h' => qlg_ops l (k + 1) a' w' hl' h') h)
    · rename_i hw
      simp only [hw]
      exact ⟨fun _ _ => trivial, qlg_ops l (k + 1) _ w hl' h⟩
theorem qlg_region {P : Program} {ops : Array Oper} {id : Nat} {Q : Exit → Act → World → Prop} {a : Act} {w : World} (h : qlg P ops ops.toList (Q .normal) Q a w) : (Code.region id ops false).wpIn (Fw none) 0 P Q a w := by
  refine wpIn_region ?_
  have := qlg_ops (P := P) (ops := ops) (Q := Q) ops.toList 0 a w (by simp) h
  simpa [List.range_eq_range'] using this
theorem tail_ops {P : Program} {ops : Array Oper} {Q : Exit → Act → World → Prop} {a : Act} {w : World} (k c : Nat) (hc : (ops.toList.drop k).length = c) (h : qlg P ops (ops.toList.drop k) (Q .normal) Q a w) : wpOpsIn (Fw none) 0 P ops Q (List.range' k c) a w := by
  subst hc
  exact qlg_ops _ k a w (fun j => by simp [List.getElem?_drop]) h
theorem run_app2 {P : Program} {ev : Operand → Value} {w w' : World} {o : Oper} {x y : Operand} {vx vy : Value} {tt : Array TypeId} {v' : Value} (ho : o.op = .call ⟨.builtin .append, #[x, y], tt⟩) (hx : ev x = vx) (hy : ev y = vy) (h : (Builtin.append_ tt o.type #[vx, vy]).run P w = .ok v' w') : (execOp ev o).run P w = .ok (.value v') w' := by
  unfold execOp
  rw [ho]
  simp only [resolve, Sem.run_bind, Sem.run_pure, Result.andThen_ok, invoke, builtin]
  have h' : (Builtin.append_ tt o.type (Array.map ev #[x, y])).run P w = .ok v' w' := by simpa [hx, hy] using h
  rw [h']
  rfl
theorem heap_self (w : World) (o : Obj) : (w.alloc o).heap[w.heap.size]? = some o := by show (w.heap.push o)[w.heap.size]? = some o; simp
theorem row_cell {w : World} {b k : Nat} {cur : Array Value} {e : TypeId} (h : w.heap[b]? = some (.cells cur e (0, 0))) : w.cell? ⟨b, k, none⟩ = cur[k]? := by
  simp [World.cell?, h]
theorem row_warm {w : World} {b k : Nat} {cur : Array Value} {e : TypeId} (h : w.heap[b]? = some (.cells cur e (0, 0))) : w.frozen? ⟨b, k, none⟩ = false := by
  unfold World.frozen?
  rw [h]
  simp

/-! ### Suites whose rows lie in memory of their own -/
abbrev rV (v : Value) (cs : List Value) : Prop := cs = [v]
abbrev OB := Option (Nat × Nat)
structure NestW (lo : Nat) (w : World) (t : Ste) (v : Value) (ob : OB) (vs : List Value) (os : List OB) : Prop where
  lenv : vs.length = t.length
  leno : os.length = t.length
  out : repOwn rV 1 w (fun b => lo ≤ b) vs v ob
  row : ∀ j, j < t.length → repOwn rI 1 w (fun b => lo ≤ b) (t.getD j []) (vs.getD j undef) (os.getD j none)
  sep : ∀ j, j < t.length → ∀ b o, os.getD j none = some (b, o) → ∀ o', ob ≠ some (b, o')
  dis : ∀ j k, j < t.length → k < t.length → j ≠ k → ∀ b o o', os.getD j none = some (b, o) → os.getD k none ≠ some (b, o')
theorem own_lt {α : Type} {R : α → List Value → Prop} {n : Nat} {w : World} {S : Nat → Prop} {xs : List α} {v : Value} {b o : Nat} (h : repOwn R n w S xs v (some (b, o))) : b < w.heap.size ∧ S b := by
  rcases h with ⟨_, _, e⟩ | ⟨b', off, cap, cur, e, g1, g2, g3, g4, g5⟩
  · cases e
  · cases g1; exact ⟨(Array.getElem?_eq_some_iff.1 g4).1, g3⟩
theorem own_blk {α : Type} {R : α → List Value → Prop} {n : Nat} {w w' : World} {S : Nat → Prop} {xs : List α} {v : Value} {ob : OB} (h : repOwn R n w S xs v ob) (hb : ∀ b o, ob = some (b, o) → w'.heap[b]? = w.heap[b]?) : repOwn R n w' S xs v ob := by
  rcases h with h | ⟨b, off, cap, cur, e, g1, g2, g3, g4, g5⟩
  · exact .inl h
  · exact .inr ⟨b, off, cap, cur, e, g1, g2, g3, (hb b off g1).trans g4, g5⟩
theorem own_S {α : Type} {R : α → List Value → Prop} {n : Nat} {w : World} {S S' : Nat → Prop} {xs : List α} {v : Value} {ob : OB} (h : repOwn R n w S xs v ob) (hb : ∀ b o, ob = some (b, o) → S' b) : repOwn R n w S' xs v ob := by
  rcases h with h | ⟨b, off, cap, cur, e, g1, g2, g3, g4, g5⟩
  · exact .inl h
  · exact .inr ⟨b, off, cap, cur, e, g1, g2, hb b off g1, g4, g5⟩
theorem own_one {α : Type} {R : α → List Value → Prop} {n : Nat} {w : World} {S : Nat → Prop} {xs : List α} {v : Value} {ob : OB} (h : repOwn R n w S xs v ob) : v.oneCell' = true := by
  rcases h with ⟨rfl, _⟩ | ⟨b, off, cap, cur, e, g1, rfl, _⟩ <;> rfl
theorem NestW.below {lo : Nat} {w w' : World} {t : Ste} {v : Value} {ob : OB} {vs : List Value} {os : List OB} (h : NestW lo w t v ob vs os) (hb : Below w.heap.size w w') : NestW lo w' t v ob vs os :=
  ⟨h.lenv, h.leno, own_blk h.out fun b o e => hb.block b (own_lt (e ▸ h.out)).1, fun j hj => own_blk (h.row j hj) fun b o e => hb.block b (own_lt (e ▸ h.row j hj)).1, h.sep, h.dis⟩

theorem repL_map {α : Type} {R : α → List Value → Prop} {f : α → Value} (h : ∀ x cs, R x cs → cs = [f x]) : ∀ xs cs, repL R xs cs → cs = xs.map f
  | [], cs, e => e
  | x :: xs, cs, ⟨c1, c2, e, h1, h2⟩ => by
    rw [e, h x c1 h1, repL_map h xs c2 h2]; rfl
theorem repL_of_map {α : Type} {R : α → List Value → Prop} {f : α → Value} : ∀ xs : List α, (∀ x ∈ xs, R x [f x]) → repL R xs (xs.map f)
  | [], _ => rfl
  | x :: xs, h => ⟨[f x], xs.map f, rfl, h x (by simp), repL_of_map xs fun y hy => h y (by simp [hy])⟩
/-- Labels: the numbers of the places. -/
def labs (n : Nat) : List (List Int) := (List.range n).map fun i : Nat => [(i : Int)]
def labF (vs : List Value) (l : List Int) : Value := vs.getD (l.headD 0).toNat undef
theorem labs_map (vs : List Value) : (labs vs.length).map (labF vs) = vs := by
  unfold labs labF
  rw [List.map_map]
  apply List.ext_getElem (by simp)
  intro i h1 h2
  simp [List.getD_eq_getElem?_getD, h2]
def labR (vs : List Value) (l : List Int) (cs : List Value) : Prop := (∃ k, k < vs.length ∧ l = [(k : Int)]) ∧ cs = [labF vs l]
theorem labs_len (n : Nat) : (labs n).length = n := by simp [labs]
theorem labs_succ (n : Nat) : labs (n + 1) = labs n ++ [[(n : Int)]] := by simp [labs, List.range_succ]
theorem own_labs {w : World} {S : Nat → Prop} {us vs : List Value} {v : Value} {ob : OB} (h : repOwn rV 1 w S vs v ob) (hu : us.take vs.length = vs) (hl : vs.length ≤ us.length) : repOwn (labR us) 1 w S (labs vs.length) v ob := by
  have hr : ∀ cs, repL rV vs cs → repL (labR us) (labs vs.length) cs := by
    intro cs hc
    have e := repL_map (f := fun v => v) (fun x cs h => h) vs cs hc
    have e2 : (labs vs.length).map (labF us) = vs := by
      have := labs_map us
      rw [show labs vs.length = (labs us.length).take vs.length by simp [labs, ← List.map_take, List.take_range, Nat.min_eq_left hl], List.map_take, this, hu]
    rw [e, List.map_id', ← e2]
    have e3 : vs.length = ((labs vs.length).map (labF us)).length := by rw [e2]
    rw [← e3]
    refine repL_of_map _ fun x hx => ⟨?_, rfl⟩
    unfold labs at hx
    obtain ⟨k, hk, rfl⟩ := List.mem_map.1 hx
    exact ⟨k, by have := List.mem_range.1 hk; omega, rfl⟩
  rcases h with ⟨rfl, rfl, rfl⟩ | ⟨b, off, cap, cur, e, g1, g2, g3, g4, g5, g6, g7, g8⟩
  · exact .inl ⟨rfl, by simp [labs], rfl⟩
  · exact .inr ⟨b, off, cap, cur, e, g1, by rw [labs_len]; exact g2, g3, g4, by rw [labs_len]; exact g5, by rw [labs_len]; exact g6, g7, by rw [labs_len]; exact hr _ g8⟩
theorem own_unlab {w : World} {S : Nat → Prop} {vs : List Value} {v : Value} {ob : OB} (h : repOwn (labR vs) 1 w S (labs vs.length) v ob) : repOwn rV 1 w S vs v ob := by
  have hr : ∀ cs, repL (labR vs) (labs vs.length) cs → repL rV vs cs := by
    intro cs hc
    have e := repL_map (f := labF vs) (fun x cs h => h.2) _ cs hc
    rw [labs_map] at e
    rw [e]
    have := repL_of_map (R := rV) (f := fun v => v) vs fun x _ => rfl
    rwa [List.map_id'] at this
  rcases h with ⟨rfl, e, rfl⟩ | ⟨b, off, cap, cur, e, g1, g2, g3, g4, g5, g6, g7, g8⟩
  · have : vs.length = 0 := by rw [← labs_len vs.length, e]; rfl
    exact .inl ⟨rfl, List.length_eq_zero_iff.1 this, rfl⟩
  · rw [labs_len] at g2 g5 g6 g8
    exact .inr ⟨b, off, cap, cur, e, g1, g2, g3, g4, g5, g6, g7, hr _ g8⟩
/-- append of one value. -/
theorem app_val {w : World} {S : Nat → Prop} {vs : List Value} {v nv : Value} {ob : OB} {bb : Nat} {eb ty : TypeId} (h : repOwn rV 1 w S vs v ob) (hv : ∀ x ∈ vs, x.oneCell' = true) (hn : nv.oneCell' = true) (hl : vs.length < 1000) (hb : w.heap[bb]? = some (.cells #[nv] eb (0, 0))) :
    ∃ v' w' ob', (Builtin.append_ #[22, 22] ty #[v, .slice (some ⟨bb, 0, none⟩) 1 1]).run Go.Proofs.Try.prog w = .ok v' w' ∧ repOwn rV 1 w' (fun _ => True) (vs ++ [nv]) v' ob' ∧ w'.os = w.os ∧ w'.tape = w.tape ∧ w'.output = w.output ∧ w.heap.size ≤ w'.heap.size ∧
      (∀ i, i < w.heap.size → (∀ o, ob ≠ some (i, o)) → w'.heap[i]? = w.heap[i]?) ∧ (∀ b o, ob' = some (b, o) → w.heap.size ≤ b ∨ ∃ o', ob = some (b, o')) := by
  obtain ⟨e, u1, u2⟩ := ty_sl ((tyB_ok Go.Proofs.Try.prog tSte).1 22 (by kernel_rfl))
  have hus : (vs ++ [nv]).length = vs.length + 1 := by simp
  have hone : ∀ k, k < (vs ++ [nv]).length → ((vs ++ [nv]).getD k undef).oneCell' = true := by
    intro k hk
    have : (vs ++ [nv]).getD k undef ∈ vs ++ [nv] := mem_getD hk
    rcases List.mem_append.1 this with g | g
    · exact hv _ g
    · rw [List.mem_singleton] at g; rw [g]; exact hn
  obtain ⟨v', w', ob', r1, r2, r3, r4, r5, r6, r7, r8⟩ := run_append (P := Go.Proofs.Try.prog) (t := 22) (e := e) (ty := ty) (a := tInts) u1 u2 rfl (R := labR (vs ++ [nv])) (fun x cs h => by
    obtain ⟨⟨k, hk, rfl⟩, rfl⟩ := h
    refine ⟨rfl, fun u hu => ?_⟩
    rw [List.mem_singleton.1 hu]
    exact hone k hk) (S := S) (xs := labs vs.length) (ys := [[(vs.length : Int)]]) (v := v) (vy := .slice (some ⟨bb, 0, none⟩) 1 1) (ob := ob) (own_labs h (by simp) (by simp)) ⟨_, 1, rfl, Nat.le_refl _, by simp, .inr ⟨bb, 0, [nv], rfl, trivial, (Array.getElem?_eq_some_iff.1 hb).1, fun j u hu => by
      cases j with
      | zero => simp at hu; subst hu; rw [row_cell hb]; rfl
      | succ j => simp at hu, ⟨[nv], [], rfl, ⟨⟨vs.length, by simp, rfl⟩, by simp [labF]⟩, rfl⟩⟩⟩ (by rw [labs_len]; simp; omega)
  refine ⟨v', w', ob', r1, own_unlab ?_, r3, r4, r5, r6, r7, r8⟩
  rw [hus, labs_succ]
  exact r2
theorem getD_snoc {α : Type} (l : List α) (x d : α) (j : Nat) : (l ++ [x]).getD j d = if j = l.length then x else l.getD j d := by
  by_cases h : j = l.length
  · subst h; simp
  · rw [if_neg h]
    rcases Nat.lt_or_ge j l.length with g | g
    · simp [List.getD_eq_getElem?_getD, List.getElem?_append_left g, g]
    · rw [List.getD_eq_getElem?_getD, List.getD_eq_getElem?_getD, List.getElem?_eq_none (by simp; omega), List.getElem?_eq_none (by omega)]
theorem NestW.snoc {lo : Nat} {w w' : World} {t : Ste} {v v' nv : Value} {ob ob' nob : OB} {vs : List Value} {os : List OB} {xs : List Int} (h : NestW lo w t v ob vs os) (hn : repOwn rI 1 w (fun b => lo ≤ b) xs nv nob) (hd : ∀ b o, nob = some (b, o) → (∀ o', ob ≠ some (b, o')) ∧ ∀ j, j < t.length → ∀ o', os.getD j none ≠ some (b, o'))
    (hlo : lo ≤ w.heap.size) (ho : repOwn rV 1 w' (fun _ => True) (vs ++ [nv]) v' ob') (hk : ∀ i, i < w.heap.size → (∀ o, ob ≠ some (i, o)) → w'.heap[i]? = w.heap[i]?) (hb : ∀ b o, ob' = some (b, o) → w.heap.size ≤ b ∨ ∃ o', ob = some (b, o')) : NestW lo w' (t ++ [xs]) v' ob' (vs ++ [nv]) (os ++ [nob]) := by
  have lv := h.lenv
  have lo' := h.leno
  refine ⟨by simp [lv], by simp [lo'], own_S ho fun b o e => ?_, fun j hj => ?_, fun j hj b o e => ?_, fun j k hj hk' hne b o o' e => ?_⟩
  · rcases hb b o e with g | ⟨o', g⟩
    · omega
    · exact (own_lt (g ▸ h.out)).2
  · rw [getD_snoc, getD_snoc, getD_snoc, lv, lo']
    by_cases g : j = t.length
    · rw [if_pos g, if_pos g, if_pos g]
      exact own_blk hn fun b o e => hk b (own_lt (e ▸ hn)).1 (hd b o e).1
    · rw [if_neg g, if_neg g, if_neg g]
      have hj' : j < t.length := by simp at hj; omega
      exact own_blk (h.row j hj') fun b o e => hk b (own_lt (e ▸ h.row j hj')).1 (h.sep j hj' b o e)
  · intro o' e'
    rw [getD_snoc, lo'] at e
    have hlt : b < w.heap.size ∧ ∀ o', ob ≠ some (b, o') := by
      by_cases g : j = t.length
      · rw [if_pos g] at e
        exact ⟨(own_lt (e ▸ hn)).1, (hd b o e).1⟩
      · rw [if_neg g] at e
        have hj' : j < t.length := by simp at hj; omega
        exact ⟨(own_lt (e ▸ h.row j hj')).1, h.sep j hj' b o e⟩
    rcases hb b o' e' with g | ⟨o2, g⟩
    · omega
    · exact hlt.2 o2 g
  · rw [getD_snoc, lo'] at e ⊢
    by_cases g : j = t.length
    · rw [if_pos g] at e
      have hk2 : k < t.length := by simp at hk'; omega
      rw [if_neg (by omega)]
      exact (hd b o e).2 k hk2 o'
    · rw [if_neg g] at e
      have hj' : j < t.length := by simp at hj; omega
      by_cases g2 : k = t.length
      · rw [if_pos g2]
        intro e2
        exact (hd b o' e2).2 j hj' o e
      · rw [if_neg g2]
        have hk2 : k < t.length := by simp at hk'; omega
        exact h.dis j k hj' hk2 hne b o o' e
end Go.Tk
/- suite.copied, by hand. -/
set_option linter.unusedSimpArgs false
set_option linter.unusedVariables false
set_option linter.unnecessarySimpa false
set_option maxRecDepth 10000
set_option maxHeartbeats 1000000
namespace Go.Tk
open Go Go.RowKit
theorem bld_row (W : World) (a : Option Addr) (l c : Nat) : (Instr.buildSlice 22 1 #[(0, .slice a l c)]).run Go.Proofs.Try.prog W = .ok (.slice (some ⟨W.heap.size, 0, none⟩) 1 1) (W.alloc (.cells #[.slice a l c] 25)) := by
  obtain ⟨fi, z, i1, i2, i3, i4, i5⟩ := Go.Tk.elem_info (P := Go.Proofs.Try.prog) ((tyB_ok Go.Proofs.Try.prog tInts).1 25 (by kernel_rfl)) rfl
  have i3 : fi.size = 1 := i3
  refine run_buildSlice W _ 25 1 _ _ fi z (by kernel_rfl) i1 i2 (by rw [i3]; decide) (by rw [i3]; decide) ?_
  simp only [i3]
  exact Great.fill_flat [.slice a l c] _ (fun v hv => by rw [List.mem_singleton.1 hv]; rfl) (by simp)
theorem ste_row {w : World} {S : Nat → Prop} {t : Ste} {ao : Option Addr} {cap : Nat} (ht : (reps Go.Proofs.Try.prog tSte).c w S t [.slice ao t.length cap]) {m : Nat} (hm : m < t.length) :
    ∃ b off rv, ao = some ⟨b, off, none⟩ ∧ (∀ W, (Instr.indexAt 22 (.slice (some ⟨b, off, none⟩) t.length cap) (.int .i64 m)).run Go.Proofs.Try.prog W = .ok (.pointer (some ⟨b, off + m, none⟩)) W) ∧ (∀ W, Below w.heap.size w W → W.cell? ⟨b, off + m, none⟩ = some rv) ∧ (∀ W, Below w.heap.size w W → (reps Go.Proofs.Try.prog tInts).c W S (t.getD m []) [rv]) := by
  obtain ⟨tv', etv, ao', cap', e2, h1, h2, h3⟩ := ht
  cases etv
  cases e2
  rcases h3 with e | ⟨b, off, cs, rfl, hS, hb, hc, h4⟩
  · have e : t = [] := e
    rw [e] at hm; simp at hm
  have hn : ∀ (r : List Int) cs, (reps Go.Proofs.Try.prog tInts).c w S r cs → cs.length = 1 := fun r cs h => by
    obtain ⟨u, rfl, _⟩ := h; rfl
  have hx : t[m]? = some (t.getD m []) := by simp [List.getD_eq_getElem?_getD, hm]
  have hg := repL_get hn t cs h4 m _ hx
  rw [Nat.mul_one] at hg
  obtain ⟨u, eu, hu⟩ := hg
  have hcm : cs[m]? = some u := by
    have := congrArg (fun l => l[0]?) eu
    simpa [List.getElem?_take, List.getElem?_drop] using this
  refine ⟨b, off, u, rfl, fun W => ?_, fun W hW => ?_, fun W hW => ?_⟩
  · obtain ⟨e, t1, t2⟩ := ty_sl ((tyB_ok Go.Proofs.Try.prog tSte).1 22 (by kernel_rfl))
    have := run_index_sl (w := W) t1 t2 (b := b) (off := off) (len := t.length) (cap := cap) (n := (m : Int)) (by omega) (by omega)
    rw [Int.toNat_natCast, show T.csize tInts = 1 from rfl, Nat.mul_one] at this
    exact this
  · exact (hc.keep fun _ => hW.block b hb) m u hcm
  · exact c_keep tInts ⟨u, rfl, hu⟩ ⟨hW.size, fun b hb' _ => hW.block b hb'.lt⟩ fun _ _ h => h
def copiedPost (w : World) (t : Ste) : Ending → World → Prop := fun e w' => ∃ v ob vs os, e = .returned v ∧ NestW w.heap.size w' t v ob vs os ∧ Below w.heap.size w w'
theorem copied_call {w : World} {S : Nat → Prop} {t : Ste} {tv : Value} (ht : (reps Go.Proofs.Try.prog tSte).c w S t [tv]) (hlen : t.length ≤ 900) (hrow : ∀ r ∈ t, r.length ≤ 1000) :
    Calls Go.Proofs.Try.prog 85 #[tv] w (copiedPost w t) := by
  have ht0 := ht
  obtain ⟨tv', etv, ao, cap, e2, h1, h2, h3⟩ := ht
  cases etv
  have e2 : tv = .slice ao t.length cap := e2
  subst e2
  have keepT : ∀ {W : World}, Below w.heap.size w W → (reps Go.Proofs.Try.prog tSte).c W S t [.slice ao t.length cap] := fun hb => c_keep tSte ht0 ⟨hb.size, fun b hb' _ => hb.block b hb'.lt⟩ fun _ _ h => h
  go_enter Go.Proofs.Try.func85, Go.Proofs.Try.ntmps85
  refine (wpIn_wide (n := 0)).1 ?_
  show Code.wpIn (Fw none) 0 _ _ _ _ _
  refine wpIn_seq (ql_region rfl ?_)
  simp [ql, go_sem, Exit.then]
  refine wpIn_seq (ql_region rfl ?_)
  simp [ql, go_sem, Exit.then]
  refine wpIn_seq (wpIn_seq (ql_region rfl ?_))
  simp [ql, go_sem, Exit.then]
  refine wpIn_block (wp_loopAt ?_)
  obtain ⟨A, hA⟩ : ∃ A : Nat → Act → World → Prop, A = fun m a W => ∃ x1 x2 x4 x5 x9 x10 x11 x12 x13 x14 x15 x16 x17 x18 : Value, ∃ v ob vs os, a = ⟨#[.slice ao t.length cap, x1, x2, v, x4, x5, .slice ao t.length cap, .int .i64 t.length, .int .i64 m, x9, x10, x11, x12, x13, x14, x15, x16, x17, x18], []⟩ ∧ NestW w.heap.size W (t.take m) v ob vs os ∧ Below w.heap.size w W := ⟨_, rfl⟩
  refine loop_upX (n := t.length) A ?_ ?_ 0 (by omega) _ _ (by rw [hA]; exact ⟨_, _, _, _, _, _, _, _, _, _, _, _, _, _, .slice none 0 0, none, [], [], rfl, ⟨rfl, rfl, .inl ⟨rfl, rfl, rfl⟩, fun j hj => by simp at hj, fun j hj => by simp at hj, fun j k hj => by simp at hj⟩, Below.refl _ _⟩)
  · intro a W hh
    rw [hA] at hh
    obtain ⟨x1, x2, x4, x5, x9, x10, x11, x12, x13, x14, x15, x16, x17, x18, v, ob, vs, os, rfl, hN, hb⟩ := hh
    refine wpIn_seq (ql_region rfl ?_)
    simp [ql, go_sem, Exit.then]
    refine wpIn_seq (wpIn_cond_false (by simp [Act.eval]) (wpIn_exit ?_))
    simp only [Exit.then, Exit.inBlock, if_true]
    refine wpIn_seq (ql_region rfl ?_)
    simp [ql, go_sem, Exit.then]
    refine wpIn_ret ?_
    rw [List.take_length] at hN
    exact ⟨rfl, _, results_tmp rfl _ _ _, v, ob, vs, os, rfl, hN, hb⟩
  · intro m a W hm hh
    rw [hA] at hh
    obtain ⟨x1, x2, x4, x5, x9, x10, x11, x12, x13, x14, x15, x16, x17, x18, v, ob, vs, os, rfl, hN, hb⟩ := hh
    refine wpIn_seq (ql_region rfl ?_)
    simp [ql, go_sem, Exit.then]
    refine wpIn_seq (wpIn_cond_true (by simp [Act.eval]; omega) (wpIn_skip ?_))
    simp only [Exit.then]
    obtain ⟨b0, off0, rv, rfl, hix, hcell, hrv⟩ := ste_row ht0 hm
    have hc : W.cell? ⟨b0, off0 + m, none⟩ = some rv := hcell W hb
    refine wpIn_seq (wpIn_block (wpIn_seq (ql_region rfl ?_)))
    simp [ql, go_sem, Exit.then, hix, hc]
    have hrr := hrv W hb
    refine ql_pre 4 (by decide) rfl ?_
    simp [ql, go_sem]
    refine (clone_call hrr (by have := hrow _ (mem_getD (d := []) hm); omega)).mono ?_
    rintro e W2 ⟨nv, nob, rfl, hown, hfr, hb2⟩
    obtain ⟨na, nl, nc, rfl⟩ : ∃ na nl nc, nv = .slice na nl nc := by
      rcases hown with ⟨rfl, _⟩ | ⟨_, _, _, _, _, _, rfl, _⟩ <;> exact ⟨_, _, _, rfl⟩
    simp [ql, go_sem, bld_row]
    generalize hW3 : W2.alloc (.cells _ _) = W3
    have hself := heap_self W2 (.cells #[.slice na nl nc] 25)
    rw [hW3] at hself
    have hb3 : Below W2.heap.size W2 W3 := by rw [← hW3]; exact (Below.refl _ W2).alloc (Nat.le_refl _) _
    have hs1 := hb.size
    have hs2 := hb2.size
    have hs3 := hb3.size
    have hN3 := (hN.below hb2).below hb3
    have hown3 : repOwn rI 1 W3 (fun b => w.heap.size ≤ b) (t.getD m []) (.slice na nl nc) nob := own_S (own_blk hown fun b o e => hb3.block b (own_lt (e ▸ hown)).1) fun b o e => by have := hfr b o e; omega
    have hvl : vs.length = m := by rw [hN.lenv, List.length_take]; omega
    have htl : (t.take m).length = m := by rw [List.length_take]; omega
    obtain ⟨v', W4, ob', hrun, ho, a1, a2, a3, a4, a5, a6⟩ := app_val (ty := 22) hN3.out (fun x hx => by
      obtain ⟨j, hj, rfl⟩ := List.getElem_of_mem hx
      have := own_one (hN3.row j (by rw [htl]; omega))
      rwa [List.getD_eq_getElem?_getD, List.getElem?_eq_getElem hj] at this) (own_one hown) (by omega) hself
    have hold : ∀ j, j < (t.take m).length → ∀ b o, os.getD j none = some (b, o) → b < W.heap.size := fun j hj b o e => (own_lt (e ▸ hN.row j hj)).1
    have hoo : ∀ b o, ob = some (b, o) → b < W.heap.size := fun b o e => (own_lt (e ▸ hN.out)).1
    have hN4 := hN3.snoc hown3 (fun b o e => ⟨fun o' e' => by have := hfr b o e; have := hoo b o' e'; omega, fun j hj o' e' => by have := hfr b o e; have := hold j hj b o' e'; omega⟩) (by omega) ho a5 a6
    rw [← take_snoc [] hm] at hN4
    have hb4 : Below w.heap.size w W4 := by
      have hb03 := (hb.trans (hb2.mono hb.size)).trans (hb3.mono (by omega))
      exact ⟨a1.trans hb03.os, a2.trans hb03.tape, a3.trans hb03.output, Nat.le_trans hb03.size a4, fun i hi => (a5 i (by omega) fun o e => by have := (own_lt (e ▸ hN3.out)).2; omega).trans (hb03.block i hi)⟩
    show wpOpsIn _ _ _ _ _ [4, 5] _ _
    refine sp_val (v := v') (w1 := W4) rfl rfl (run_app2 rfl (by simp [Act.eval]) (by simp [Act.eval]) hrun) ?_
    refine tail_ops 5 1 rfl ?_
    simp [qlg, Region.wanted, yielded, go_sem, Exit.then, Exit.inBlock]
    refine ql_region rfl ?_
    simp [ql, go_sem, Exit.then, Exit.inBlock]
    rw [show IntKind.i64.wrap ((m : Int) + 1) = ((m + 1 : Nat) : Int) from wrap_in (by unfold inI; omega), hA]
    exact ⟨_, _, _, _, _, _, _, _, _, _, _, _, _, _, v', ob', _, _, rfl, hN4, hb4⟩
end Go.Tk
/- suite.Drop, by hand. -/
set_option linter.unusedSimpArgs false
set_option linter.unusedVariables false
set_option linter.unnecessarySimpa false
set_option maxRecDepth 10000
set_option maxHeartbeats 1000000
namespace Go.Tk
open Go Go.RowKit
def dropE (t : Ste) (g : Int) : Int := if validT t = 0 then (if 0 ≤ g ∧ g < (goals8 t : Int) then 0 else 4) else validT t
theorem del_call {w : World} {xs : List Int} {v : Value} {ob : OB} {g : Nat} (h : repOwn rI 1 w (fun _ => True) xs v ob) (hg : g < xs.length) (hl : xs.length ≤ 1000000) :
    Calls Go.Proofs.Try.prog 86 #[v, .int .i64 (g : Int), .int .i64 ((g : Int) + 1)] w fun e w' => ∃ v' ob', e = .returned v' ∧ repOwn rI 1 w' (fun _ => True) (cutG g xs) v' ob' ∧ (∀ b o, ob' = some (b, o) → w.heap.size ≤ b ∨ ∃ o', ob = some (b, o')) ∧ OwnBut w w' ob := by
  refine ((cDelI_ok.2 : InF _ _ cDelI) w (fun _ => False) xs ((g : Int), (g : Int) + 1, ()) v ob [.int .i64 (g : Int), .int .i64 ((g : Int) + 1)] h (fun _ _ _ h => h) ⟨_, [_], [], [], rfl, rfl, ⟨rfl, [_], rfl, rfl, show inI (g : Int) by unfold inI; omega⟩, _, [], [], [], rfl, rfl, ⟨rfl, [_], rfl, rfl, show inI ((g : Int) + 1) by unfold inI; omega⟩, rfl, rfl⟩ ⟨show (0 : Int) ≤ g by omega, show (g : Int) < (g : Int) + 1 by omega, show (g : Int) + 1 ≤ xs.length by omega⟩).mono ?_
  rintro e w' ⟨v', ob', he, h1, h2, h3⟩
  exact ⟨v', ob', he, h1, h2, h3⟩
theorem own_out {w : World} {S : Nat → Prop} {vs : List Value} {v : Value} {ob : OB} (h : repOwn rV 1 w S vs v ob) {j : Nat} (hj : j < vs.length) :
    ∃ b off cap cur e, ob = some (b, off) ∧ v = .slice (some ⟨b, off, none⟩) vs.length cap ∧ w.heap[b]? = some (.cells cur e (0, 0)) ∧ off + j < cur.size ∧ cur[off + j]? = some (vs.getD j undef) ∧ ∀ (w' : World) nv, w'.heap[b]? = some (.cells (cur.setIfInBounds (off + j) nv) e (0, 0)) → repOwn rV 1 w' S (vs.set j nv) v ob := by
  rcases h with ⟨_, rfl, _⟩ | ⟨b, off, cap, cur, e, rfl, rfl, g3, g4, g5, g6, g7, g8⟩
  · simp at hj
  · have hc := repL_map (f := fun v => v) (fun x cs h => h) vs _ g8
    rw [List.map_id', Nat.mul_one] at hc
    have hsz : off + j < cur.size := by omega
    refine ⟨b, off, cap, cur, e, rfl, rfl, g4, hsz, ?_, fun w' nv hw' => ?_⟩
    · have h1 := congrArg (fun l => l[j]?) hc
      simp only [List.getElem?_take, List.getElem?_drop] at h1
      rw [if_pos (by omega)] at h1
      rw [← Array.getElem?_toList, h1]
      simp [List.getD_eq_getElem?_getD, hj]
    · refine .inr ⟨b, off, cap, _, e, rfl, by rw [List.length_set], g3, hw', by rw [List.length_set]; exact g5, by rw [List.length_set]; exact g6, by rw [Array.size_setIfInBounds]; exact g7, ?_⟩
      have e1 : (((cur.setIfInBounds (off + j) nv).toList.drop off).take ((vs.set j nv).length * 1)) = vs.set j nv := by
        rw [List.length_set, Nat.mul_one, Array.toList_setIfInBounds, List.drop_set, if_neg (by omega), List.take_set, Nat.add_sub_cancel_left, hc]
      rw [e1]
      have := repL_of_map (R := rV) (f := fun v => v) (vs.set j nv) fun x _ => rfl
      rwa [List.map_id'] at this
theorem getD_set {α : Type} (l : List α) (x d : α) (j k : Nat) (hj : j < l.length) : (l.set j x).getD k d = if k = j then x else l.getD k d := by
  rw [List.getD_eq_getElem?_getD, List.getElem?_set, List.getD_eq_getElem?_getD]
  by_cases h : j = k
  · subst h; simp [hj]
  · rw [if_neg h, if_neg (fun e => h e.symm)]
theorem NestW.set {lo : Nat} {w w' : World} {t : Ste} {v nv : Value} {ob nob : OB} {vs : List Value} {os : List OB} {xs : List Int} {j : Nat} (h : NestW lo w t v ob vs os) (hj : j < t.length) (hlo : lo ≤ w.heap.size) (ho : repOwn rV 1 w' (fun b => lo ≤ b) (vs.set j nv) v ob) (hr : repOwn rI 1 w' (fun _ => True) xs nv nob) (hn : ∀ b o, nob = some (b, o) → w.heap.size ≤ b ∨ ∃ o', os.getD j none = some (b, o'))
    (hk : ∀ i, i < w.heap.size → (∀ o, ob ≠ some (i, o)) → (∀ o, os.getD j none ≠ some (i, o)) → w'.heap[i]? = w.heap[i]?) : NestW lo w' (t.set j xs) v ob (vs.set j nv) (os.set j nob) := by
  have lv := h.lenv
  have ll := h.leno
  have hold : ∀ k, k < t.length → ∀ b o, os.getD k none = some (b, o) → b < w.heap.size ∧ lo ≤ b := fun k hk b o e => own_lt (e ▸ h.row k hk)
  have hout : ∀ b o, ob = some (b, o) → b < w.heap.size := fun b o e => (own_lt (e ▸ h.out)).1
  refine ⟨by simp [lv], by simp [ll], ho, fun k hk' => ?_, fun k hk' b o e => ?_, fun k m hk' hm hne b o o' e => ?_⟩
  · rw [List.length_set] at hk'
    rw [getD_set _ _ _ _ _ hj, getD_set _ _ _ _ _ (by omega), getD_set _ _ _ _ _ (by omega)]
    by_cases g : k = j
    · rw [if_pos g, if_pos g, if_pos g]
      refine own_S hr fun b o e => ?_
      rcases hn b o e with g | ⟨o', g⟩
      · omega
      · exact (hold j hj b o' g).2
    · rw [if_neg g, if_neg g, if_neg g]
      exact own_blk (h.row k hk') fun b o e => hk b (hold k hk' b o e).1 (h.sep k hk' b o e) fun o' e' => h.dis k j hk' hj g b o o' e e'
  · rw [List.length_set] at hk'
    rw [getD_set _ _ _ _ _ (by omega)] at e
    intro o' e'
    by_cases g : k = j
    · rw [if_pos g] at e
      rcases hn b o e with g | ⟨o2, g⟩
      · have := hout b o' e'; omega
      · exact h.sep j hj b o2 g o' e'
    · rw [if_neg g] at e
      exact h.sep k hk' b o e o' e'
  · rw [List.length_set] at hk' hm
    rw [getD_set _ _ _ _ _ (by omega)] at e ⊢
    by_cases g : k = j
    · rw [if_pos g] at e
      rw [if_neg (by omega)]
      intro e'
      rcases hn b o e with g | ⟨o2, g⟩
      · have := (hold m hm b o' e').1; omega
      · exact h.dis j m hj hm (by omega) b o2 o' g e'
    · rw [if_neg g] at e
      by_cases g2 : m = j
      · rw [if_pos g2]
        intro e'
        rcases hn b o' e' with g3 | ⟨o2, g3⟩
        · have := (hold k hk' b o e).1; omega
        · exact h.dis k j hk' hj g b o o2 e g3
      · rw [if_neg g2]
        exact h.dis k m hk' hm hne b o o' e
theorem NestW.data {lo : Nat} {w : World} {t : Ste} {v : Value} {ob : OB} {vs : List Value} {os : List OB} (h : NestW lo w t v ob vs os) : (reps Go.Proofs.Try.prog tSte).c w (fun b => lo ≤ b) t [v] := by
  have lv := h.lenv
  have hrow : ∀ j, j < t.length → (reps Go.Proofs.Try.prog tInts).c w (fun b => lo ≤ b) (t.getD j []) [vs.getD j undef] := fun j hj => ⟨_, rfl, repSl_of_own (h.row j hj) (fun b o e => (own_lt (e ▸ h.row j hj)).2) fun _ _ h => h⟩
  refine ⟨v, rfl, ?_⟩
  rcases h.out with ⟨rfl, rfl, _⟩ | ⟨b, off, cap, cur, e, g1, rfl, g3, g4, g5, g6, g7, g8⟩
  · have : t = [] := List.length_eq_zero_iff.1 (by rw [← lv]; rfl)
    subst this
    exact ⟨none, 0, rfl, Nat.le_refl _, by simp, .inl rfl⟩
  · have hc := repL_map (f := fun v => v) (fun x cs h => h) vs _ g8
    rw [List.map_id', Nat.mul_one] at hc
    refine ⟨_, cap, by rw [lv], by rw [← lv]; exact g5, by rw [← lv]; exact g6.1, ?_⟩
    by_cases h0 : t = []
    · exact .inl h0
    · refine .inr ⟨b, off, vs, rfl, g3, (Array.getElem?_eq_some_iff.1 g4).1, fun j u hu => ?_, ?_⟩
      · have hj : j < vs.length := (List.getElem?_eq_some_iff.1 hu).1
        have h1 := congrArg (fun l => l[j]?) hc
        simp only [List.getElem?_take, List.getElem?_drop] at h1
        rw [if_pos hj, hu] at h1
        rw [row_cell g4, ← Array.getElem?_toList]; exact h1
      · refine repL_one t vs vs (by
          have := repL_of_map (R := rV) (f := fun v => v) vs fun x _ => rfl
          rwa [List.map_id'] at this) lv fun n x u hx hu => ?_
        have hn : n < t.length := (List.getElem?_eq_some_iff.1 hx).1
        have := hrow n hn
        rw [List.getD_eq_getElem?_getD, List.getD_eq_getElem?_getD, hx, hu] at this
        exact this
theorem valS_call {w : World} {S : Nat → Prop} {t : Ste} {v : Value} (ht : (reps Go.Proofs.Try.prog tSte).c w S t [v]) :
    Calls Go.Proofs.Try.prog 35 #[v] w fun e w' => e = .returned (.int .i64 (validT t)) ∧ inI (validT t) ∧ Below w.heap.size w w' := by
  refine ((cVal8_ok.1 rfl) w S (t, ()) [v] ⟨v, [], [], [], rfl, rfl, ⟨rfl, [v], rfl, ht⟩, rfl, rfl⟩ trivial).mono ?_
  rintro e w' ⟨rs, bs, rfl, ⟨u, us, _, _, rfl, _, ⟨_, cs, rfl, rfl, hi⟩, rfl, _⟩, _, _, hb⟩
  exact ⟨rfl, hi, hb⟩
theorem goals_call {w : World} {S : Nat → Prop} {t : Ste} {v : Value} (ht : (reps Go.Proofs.Try.prog tSte).c w S t [v]) :
    Calls Go.Proofs.Try.prog 82 #[v] w fun e w' => e = .returned (.int .i64 (goals8 t : Int)) ∧ inI (goals8 t : Int) ∧ Below w.heap.size w w' := by
  refine ((cGoals8_ok.1 rfl) w S (t, ()) [v] ⟨v, [], [], [], rfl, rfl, ⟨rfl, [v], rfl, ht⟩, rfl, rfl⟩ trivial).mono ?_
  rintro e w' ⟨rs, bs, rfl, ⟨u, us, _, _, rfl, _, ⟨_, cs, rfl, rfl, hi⟩, rfl, _⟩, _, _, hb⟩
  exact ⟨rfl, hi, hb⟩
theorem within_call {w : World} {n lo hi : Int} (h1 : inI n) (h2 : inI lo) (h3 : inI hi) :
    Calls Go.Proofs.Try.prog 84 #[.int .i64 n, .int .i64 lo, .int .i64 hi] w fun e w' => e = .returned (.bool (within n lo hi)) ∧ Below w.heap.size w w' := by
  refine ((cWithin8_ok.1 rfl) w (fun _ => True) (n, lo, hi, ()) [.int .i64 n, .int .i64 lo, .int .i64 hi] ⟨_, [_, _], [], [], rfl, rfl, ⟨rfl, [_], rfl, rfl, h1⟩, _, [_], [], [], rfl, rfl, ⟨rfl, [_], rfl, rfl, h2⟩, _, [], [], [], rfl, rfl, ⟨rfl, [_], rfl, rfl, h3⟩, rfl, rfl⟩ trivial).mono ?_
  rintro e w' ⟨rs, bs, rfl, ⟨u, us, _, _, rfl, _, ⟨_, cs, rfl, rfl⟩, rfl, _⟩, _, _, hb⟩
  exact ⟨rfl, hb⟩
end Go.Tk
/- suite.Greedy, by hand: its calls. -/
set_option linter.unusedSimpArgs false
set_option linter.unusedVariables false
set_option linter.unnecessarySimpa false
set_option maxRecDepth 10000
set_option maxHeartbeats 1000000
namespace Go.Tk
open Go Go.RowKit
abbrev tFn2 : T := .fn (.cons .int (.cons .int .nil)) (.cons .int .nil)
abbrev tFn1 : T := .fn (.cons .int .nil) (.cons .bool .nil)
def greF (t : Ste) (out : List Int) : (Int × Int × Unit → Prop) × (Int × Int × Unit → Int × Unit) :=
  (fun x => (0 ≤ x.1 ∧ x.1 < t.length) ∧ (0 ≤ x.2.1 ∧ x.2.1 < t.length), fun x => (metN t out x.1 - metN t out x.2.1, ()))
theorem fn_greed1 {w : World} {t : Ste} {out : List Int} {p1 p5 : Nat} {sv ov : Value} {e1 e5 : TypeId} (ht : okT t) (hin : inT t out) (hl : out.length ≤ 100) (h1 : w.heap[p1]? = some (.cells #[sv] e1 (0, 0))) (h5 : w.heap[p5]? = some (.cells #[ov] e5 (0, 0)))
    (hs : (reps Go.Proofs.Try.prog tSte).c w (fun _ => True) t [sv]) (ho : (reps Go.Proofs.Try.prog tInts).c w (fun _ => True) out [ov]) :
    (reps Go.Proofs.Try.prog tFn2).c w (fun _ => True) (greF t out) [.func (.func 99) #[] #[.pointer (some ⟨p1, 0, none⟩), .pointer (some ⟨p5, 0, none⟩)]] := by
  refine .inr ⟨99, [.pointer (some ⟨p1, 0, none⟩), .pointer (some ⟨p5, 0, none⟩)], rfl, funB_ok (by kernel_rfl), ?_⟩
  rintro w' hk S' ⟨a, b, ⟨⟩⟩ vs hv hF
  change Int at a
  change Int at b
  have hk1 := hk.2 p1 ⟨_, _, _, h1⟩ trivial
  have hk5 := hk.2 p5 ⟨_, _, _, h5⟩ trivial
  have l1 : p1 < w'.heap.size := Nat.lt_of_lt_of_le (Array.getElem?_eq_some_iff.1 h1).1 hk.1
  have l5 : p5 < w'.heap.size := Nat.lt_of_lt_of_le (Array.getElem?_eq_some_iff.1 h5).1 hk.1
  have hs' : (reps Go.Proofs.Try.prog tSte).c w' (fun _ => True) t [sv] := c_keep tSte hs hk fun _ _ h => h
  have ho' : (reps Go.Proofs.Try.prog tInts).c w' (fun _ => True) out [ov] := c_keep tInts ho hk fun _ _ h => h
  have hc : ∀ p (u : Value) e, w'.heap[p]? = some (.cells #[u] e (0, 0)) → cellsAt w' p 0 [u] := fun p u e h j v hj => by
    cases j with
    | zero => simp at hj; subst hj; rw [row_cell h]; rfl
    | succ j => simp at hj
  obtain ⟨av, vs1, b1, b2, rfl, eb, ⟨_, xc, ex, hxa⟩, bv, vs2, b3, b4, rfl, _, ⟨_, zc, ez, hxb⟩, rfl, _⟩ := hv
  refine ((cGreed1_ok.1 rfl) w' (fun _ => True) (a, b, t, out, ()) _ ⟨av, [bv, .pointer (some ⟨p1, 0, none⟩), .pointer (some ⟨p5, 0, none⟩)], [], [], rfl, rfl, ⟨rfl, xc, ex, hxa⟩, bv, [.pointer (some ⟨p1, 0, none⟩), .pointer (some ⟨p5, 0, none⟩)], [], [], rfl, rfl, ⟨rfl, zc, ez, hxb⟩, _, [_], [], [], rfl, rfl, ⟨rfl, [_], rfl, p1, 0, [sv], rfl, trivial, l1, hc p1 sv e1 (hk1.trans h1), hs'⟩, _, [], [], [], rfl, rfl, ⟨rfl, [_], rfl, p5, 0, [ov], rfl, trivial, l5, hc p5 ov e5 (hk5.trans h5), ho'⟩, rfl, rfl⟩ ⟨ht, hin, hl, hF.1, hF.2⟩).mono ?_
  rintro e w2 ⟨rs, bs, rfl, hr, h3, h4, hb⟩
  have hr2 : (reps Go.Proofs.Try.prog (.cons .int .nil)).v w2 (fun b => w'.heap.size ≤ b ∧ b ∉ bs) (metN t out a - metN t out b, ()) rs bs := by simpa using hr
  exact ⟨rs, bs, rfl, hr2, h3, h4, hb⟩
def eqF (best : Int) : (Int × Unit → Prop) × (Int × Unit → Bool × Unit) := (fun _ => True, fun x => (x.1 == best, ()))
theorem fn_greed2 {w : World} {best : Int} {p7 : Nat} {e7 : TypeId} {S : Nat → Prop} (hi : inI best) (hS : S p7) (h7 : w.heap[p7]? = some (.cells #[.int .i64 best] e7 (0, 0))) :
    (reps Go.Proofs.Try.prog tFn1).c w S (eqF best) [.func (.func 100) #[] #[.pointer (some ⟨p7, 0, none⟩)]] := by
  refine .inr ⟨100, [.pointer (some ⟨p7, 0, none⟩)], rfl, funB_ok (by kernel_rfl), ?_⟩
  rintro w' hk S' ⟨a, ⟨⟩⟩ vs hv hF
  change Int at a
  have hk7 := hk.2 p7 ⟨_, _, _, h7⟩ hS
  have l7 : p7 < w'.heap.size := Nat.lt_of_lt_of_le (Array.getElem?_eq_some_iff.1 h7).1 hk.1
  have hc : cellsAt w' p7 0 [.int .i64 best] := fun j v hj => by
    cases j with
    | zero => simp at hj; subst hj; rw [row_cell (hk7.trans h7)]; rfl
    | succ j => simp at hj
  obtain ⟨av, vs1, b1, b2, rfl, eb, ⟨_, xc, ex, hxa⟩, rfl, _⟩ := hv
  refine ((cGreed2_ok.1 rfl) w' (fun _ => True) (a, best, ()) _ ⟨av, [.pointer (some ⟨p7, 0, none⟩)], [], [], rfl, rfl, ⟨rfl, xc, ex, hxa⟩, _, [], [], [], rfl, rfl, ⟨rfl, [_], rfl, p7, 0, [.int .i64 best], rfl, trivial, l7, hc, rfl, hi⟩, rfl, rfl⟩ trivial).mono ?_
  rintro e w2 ⟨rs, bs, rfl, hr, h3, h4, hb⟩
  have hr2 : (reps Go.Proofs.Try.prog (.cons .bool .nil)).v w2 (fun b => w'.heap.size ≤ b ∧ b ∉ bs) (a == best, ()) rs bs := by simpa using hr
  exact ⟨rs, bs, rfl, hr2, h3, h4, hb⟩
theorem max_call {w : World} {t : Ste} {out left : List Int} {lv fv : Value} (hl : (reps Go.Proofs.Try.prog tInts).c w (fun _ => True) left [lv]) (hf : (reps Go.Proofs.Try.prog tFn2).c w (fun _ => True) (greF t out) [fv]) (h1 : 0 < left.length) (h2 : left.length ≤ 1000) (h3 : ∀ r ∈ left, 0 ≤ r ∧ r < (t.length : Int)) :
    Calls Go.Proofs.Try.prog 98 #[lv, fv] w fun e w' => e = .returned (.int .i64 (maxI (cmpG t out) left left.length)) ∧ inI (maxI (cmpG t out) left left.length) ∧ Below w.heap.size w w' := by
  refine ((cMaxI_ok.1 rfl) w (fun _ => True) (left, greF t out, ()) [lv, fv] ⟨lv, [fv], [], [], rfl, rfl, ⟨rfl, [lv], rfl, hl⟩, fv, [], [], [], rfl, rfl, ⟨rfl, [fv], rfl, hf⟩, rfl, rfl⟩ ⟨h1, h2, fun q hq r hr => ⟨h3 q hq, h3 r hr⟩⟩).mono ?_
  rintro e w' ⟨rs, bs, rfl, ⟨u, us, _, _, rfl, _, ⟨_, cs, rfl, rfl, hi⟩, rfl, _⟩, _, _, hb⟩
  exact ⟨rfl, hi, hb⟩
theorem delF_call {w : World} {S : Nat → Prop} {best : Int} {xs : List Int} {v fv : Value} {ob : OB} (h : repOwn rI 1 w (fun _ => True) xs v ob) (hS : ∀ b o, ob = some (b, o) → ¬ S b) (hf : (reps Go.Proofs.Try.prog tFn1).c w S (eqF best) [fv]) :
    Calls Go.Proofs.Try.prog 66 #[v, fv] w fun e w' => ∃ v' ob', e = .returned v' ∧ repOwn rI 1 w' (fun _ => True) (xs.filter fun r => !(r == best)) v' ob' ∧ (∀ b o, ob' = some (b, o) → w.heap.size ≤ b ∨ ∃ o', ob = some (b, o')) ∧ OwnBut w w' ob := by
  refine ((cDelF_ok.2 : InF _ _ cDelF) w S xs (eqF best, ()) v ob [fv] h hS ⟨fv, [], [], [], rfl, rfl, ⟨rfl, [fv], rfl, hf⟩, rfl, rfl⟩ fun _ _ => trivial).mono ?_
  rintro e w' ⟨v', ob', he, h1, h2, h3⟩
  exact ⟨v', ob', he, h1, h2, h3⟩
theorem allO_call {w : World} {n : Nat} (hn : n ≤ 1000) :
    Calls Go.Proofs.Try.prog 67 #[.int .i64 n] w fun e w' => ∃ v ob, e = .returned v ∧ repOwn rI 1 w' (fun b => w.heap.size ≤ b) (nums n) v ob ∧ Below w.heap.size w w' := by
  have hin : inI (n : Int) := by unfold inI; omega
  refine ((cAll8_ok.1 rfl) w (fun _ => False) ((n : Int), ()) [.int .i64 n] ⟨.int .i64 n, [], [], [], rfl, rfl, ⟨rfl, [.int .i64 n], rfl, rfl, hin⟩, rfl, rfl⟩ ⟨show (0 : Int) ≤ n by omega, show (n : Int) ≤ 4294967296 by omega⟩).mono ?_
  rintro e w' ⟨rs, bs, rfl, ⟨u, us, b1, b2, rfl, rfl, h3, rfl, _⟩, _, hbs, hb⟩
  obtain ⟨ob, hown, rfl⟩ := h3
  have e : (cAll8.F ((n : Int), ())).1 = nums n := by
    show nums (n : Int).toNat = _
    rw [Int.toNat_natCast]
  rw [e] at hown
  exact ⟨u, ob, rfl, own_S hown fun b o e => hbs b (by rw [e]; simp), hb⟩
end Go.Tk
/- suite.Greedy, by hand: one pass from the label. -/
set_option linter.unusedSimpArgs false
set_option linter.unusedVariables false
set_option linter.unnecessarySimpa false
set_option maxRecDepth 10000
set_option maxHeartbeats 2000000
namespace Go.Tk
open Go Go.RowKit
theorem bld_int (W : World) (z : Int) : (Instr.buildSlice 25 1 #[(0, .int .i64 z)]).run Go.Proofs.Try.prog W = .ok (.slice (some ⟨W.heap.size, 0, none⟩) 1 1) (W.alloc (.cells #[.int .i64 z] 3)) := by
  obtain ⟨fi, z0, i1, i2, i3, i4, i5⟩ := Go.Tk.elem_info (P := Go.Proofs.Try.prog) ((tyB_ok Go.Proofs.Try.prog .int).1 3 (by kernel_rfl)) rfl
  have i3 : fi.size = 1 := i3
  refine run_buildSlice W _ 3 1 _ _ fi z0 (by kernel_rfl) i1 i2 (by rw [i3]; decide) (by rw [i3]; decide) ?_
  simp only [i3]
  exact Great.fill_flat [.int .i64 z] _ (fun v hv => by rw [List.mem_singleton.1 hv]; rfl) (by simp)
def subC : Code → List Nat → Code
  | c, [] => c
  | .seq a _, 0 :: p => subC a p
  | .seq _ b, 1 :: p => subC b p
  | .scope c, 2 :: p => subC c p
  | c, _ => c
theorem lt_row {w : World} {b : Nat} {o : Obj} (h : w.heap[b]? = some o) : b < w.heap.size := (Array.getElem?_eq_some_iff.1 h).1
structure GrW (lo : Nat) (t : Ste) (p1 p5 : Nat) (sv : Value) (k : Nat) (ov : Value) (oob : OB) (lv : Value) (lob : OB) (W : World) : Prop where
  k1 : W.heap[p1]? = some (.cells #[sv] 22 (0, 0))
  k5 : W.heap[p5]? = some (.cells #[ov] 25 (0, 0))
  o : repOwn rI 1 W (fun b => lo ≤ b) (greS t k) ov oob
  l : repOwn rI 1 W (fun b => lo ≤ b) (restL t (greS t k)) lv lob
  d1 : ∀ b o, oob = some (b, o) → b ≠ p1 ∧ b ≠ p5 ∧ ∀ o', lob ≠ some (b, o')
  d2 : ∀ b o, lob = some (b, o) → b ≠ p1 ∧ b ≠ p5
  ne : p1 ≠ p5 ∧ lo ≤ p1 ∧ lo ≤ p5
theorem GrW.below {lo : Nat} {t : Ste} {p1 p5 : Nat} {sv : Value} {k : Nat} {ov : Value} {oob : OB} {lv : Value} {lob : OB} {W W' : World} (h : GrW lo t p1 p5 sv k ov oob lv lob W) (hb : Below W.heap.size W W') : GrW lo t p1 p5 sv k ov oob lv lob W' :=
  ⟨(hb.block _ (lt_row h.k1)).trans h.k1, (hb.block _ (lt_row h.k5)).trans h.k5, own_blk h.o fun b o e => hb.block b (own_lt (e ▸ h.o)).1, own_blk h.l fun b o e => hb.block b (own_lt (e ▸ h.l)).1, h.d1, h.d2, h.ne⟩
def greJ (w : World) (t : Ste) (p1 p5 : Nat) (sv : Value) (a : Act) (W : World) : Prop := ∃ x0 x2 x3 x4 x7 x8 x9 x10 x11 x12 x13 x14 x15 x16 x17 x18 x19 x20 x21 x22 x23 x24 x25 x26 x27 x28 x29 : Value, ∃ k ov oob lv lob, a = ⟨#[x0, .pointer (some ⟨p1, 0, none⟩), x2, x3, x4, .pointer (some ⟨p5, 0, none⟩), lv, x7, x8, x9, x10, x11, x12, x13, x14, x15, x16, x17, x18, x19, x20, x21, x22, x23, x24, x25, x26, x27, x28, x29], []⟩ ∧ k ≤ t.length ∧ GrW w.heap.size t p1 p5 sv k ov oob lv lob W ∧ Below w.heap.size w W
def greM (a : Act) : Nat := match a.tmps.getD 6 undef with
  | .slice _ n _ => n
  | _ => 0
def grePost (w : World) (t : Ste) : Ending → World → Prop := fun e w' => ∃ v, e = .returned (.tuple #[v, .int .i64 (validT t)]) ∧ (reps Go.Proofs.Try.prog tInts).c w' (fun b => w.heap.size ≤ b) (if validT t = 0 then greT t else []) [v] ∧ inI (validT t) ∧ Below w.heap.size w w'
theorem gre_pass {w : World} {t : Ste} {p1 p5 : Nat} {sv : Value} (ht : okT t) (hs : ∀ W, Below w.heap.size w W → (reps Go.Proofs.Try.prog tSte).c W (fun _ => True) t [sv]) (a : Act) (W : World) (hJ : greJ w t p1 p5 sv a W) :
    Code.wpIn (Fw none) 0 Go.Proofs.Try.prog (subC (Go.Proofs.Try.f55.body.getD .skip) [1, 2, 1, 1, 1, 1]) (Exit.jump 0 (fun a' w' => greJ w t p1 p5 sv a' w' ∧ greM a' < greM a) (bodyPost Go.Proofs.Try.prog Go.Proofs.Try.f55 (grePost w t))) a W := by
  obtain ⟨x0, x2, x3, x4, x7, x8, x9, x10, x11, x12, x13, x14, x15, x16, x17, x18, x19, x20, x21, x22, x23, x24, x25, x26, x27, x28, x29, k, ov, oob, lv, lob, rfl, hk, hG, hb⟩ := hJ
  have h8 := ht.1
  obtain ⟨r1, r2, r3⟩ := rest_count t k hk
  obtain ⟨la, lc, rfl⟩ : ∃ la lc, lv = .slice la (restL t (greS t k)).length lc := by
    rcases hG.l with ⟨h, h', _⟩ | ⟨b, off, cap, cur, e, _, h, _⟩
    · exact ⟨none, 0, by rw [h, h']; rfl⟩
    · exact ⟨_, _, h⟩
  have hres : ∀ (tm : Array Value) (W : World), (results Go.Proofs.Try.f55 tm).run Go.Proofs.Try.prog W = .ok (.tuple #[tm.getD 2 undef, tm.getD 3 undef]) W := fun tm W => by simp [results, Go.Proofs.Try.results55, go_sem]
  have c5 : W.cell? ⟨p5, 0, none⟩ = some ov := by rw [row_cell hG.k5]; rfl
  refine wpIn_seq (wpIn_seq (ql_region rfl ?_))
  simp [ql, go_sem, Exit.then]
  by_cases hz : (restL t (greS t k)).length = 0
  · refine wpIn_cond_false (by simp [Act.eval, hz]) (wpIn_skip ?_)
    simp only [Exit.then]
    refine wpIn_seq (ql_region rfl ?_)
    simp [ql, go_sem, Exit.then, c5]
    refine wpIn_ret ?_
    have hv := validT_ok.2 ht
    have hkn : k = t.length := by omega
    refine ⟨rfl, _, hres _ _, ov, by rw [hv]; rfl, ?_, by rw [hv]; unfold inI; omega, hb⟩
    rw [if_pos hv]
    have ho := hG.o
    rw [hkn] at ho
    exact ⟨_, rfl, repSl_of_own ho (fun b o e => (own_lt (e ▸ ho)).2) fun _ _ h => h⟩
  have hpos : 0 < (restL t (greS t k)).length := by omega
  refine wpIn_cond_true (by simp [Act.eval]; omega) ?_
  have hod : (reps Go.Proofs.Try.prog tInts).c W (fun _ => True) (greS t k) [ov] := ⟨_, rfl, repSl_of_own hG.o (fun b o e => trivial) fun _ _ h => h⟩
  have hld : (reps Go.Proofs.Try.prog tInts).c W (fun _ => True) (restL t (greS t k)) [.slice la (restL t (greS t k)).length lc] := ⟨_, rfl, repSl_of_own hG.l (fun b o e => trivial) fun _ _ h => h⟩
  have hgl := greS_len t k
  have hfn := fn_greed1 ht r2 (by omega) hG.k1 hG.k5 (hs W hb) hod
  refine wpIn_seq (ql_region rfl ?_)
  simp [ql, go_sem, Exit.then]
  refine (max_call hld hfn hpos (by omega) (fun r hr => (rest_mem.1 hr).1)).mono ?_
  rintro e W1 ⟨rfl, hiN, hb1⟩
  rw [show maxI (cmpG t (greS t k)) (restL t (greS t k)) (restL t (greS t k)).length = nextG t (greS t k) from rfl] at hiN ⊢
  simp [ql, go_sem, Exit.then]
  generalize hbest : nextG t (greS t k) = best at hiN ⊢
  generalize hW2 : W1.alloc (.cells _ _) = W2
  have h7 := heap_self W1 (.cells #[.int .i64 best] 3)
  rw [hW2] at h7
  have hb2 : Below W1.heap.size W1 W2 := by rw [← hW2]; exact (Below.refl _ W1).alloc (Nat.le_refl _) _
  have s0 := hb.size
  have s1 := hb1.size
  have s2 := hb2.size
  have hG2 := (hG.below hb1).below hb2
  have hb02 : Below W.heap.size W W2 := hb1.trans (hb2.mono s1)
  have c5' : W2.cell? ⟨p5, 0, none⟩ = some ov := by rw [row_cell hG2.k5]; rfl
  have c7 : W2.cell? ⟨W1.heap.size, 0, none⟩ = some (.int .i64 best) := by rw [row_cell h7]; rfl
  have hlt : W1.heap.size < W2.heap.size := lt_row h7
  have hp5 := lt_row hG.k5
  have hp1 := lt_row hG.k1
  refine wpIn_seq (ql_pre 3 (by decide) rfl ?_)
  simp [ql, go_sem, c5', c7, bld_int]
  generalize hW3 : W2.alloc (.cells _ _) = W3
  have h8' := heap_self W2 (.cells #[.int .i64 best] 3)
  rw [hW3] at h8'
  have hb3 : Below W2.heap.size W2 W3 := by rw [← hW3]; exact (Below.refl _ W2).alloc (Nat.le_refl _) _
  have s3 := hb3.size
  have hG3 := hG2.below hb3
  obtain ⟨e25, t1, t2⟩ := ty_sl ((tyB_ok Go.Proofs.Try.prog tInts).1 25 (by kernel_rfl))
  obtain ⟨nv, W4, nob, hrun, ho, a1, a2, a3, a4, a5, a6⟩ := run_append (P := Go.Proofs.Try.prog) (t := 25) (ty := 25) (a := .int) t1 t2 rfl (R := rI) (fun x cs h => by
    obtain ⟨rfl, _⟩ := h
    exact ⟨rfl, fun u hu => by rw [List.mem_singleton.1 hu]; rfl⟩) (S := fun b => w.heap.size ≤ b) (xs := greS t k) (ys := [best]) (v := ov) (vy := .slice (some ⟨W2.heap.size, 0, none⟩) 1 1) (ob := oob) hG3.o ⟨_, 1, rfl, Nat.le_refl _, by simp, .inr ⟨W2.heap.size, 0, [.int .i64 best], rfl, trivial, lt_row h8', fun j u hu => by
      cases j with
      | zero => simp at hu; subst hu; rw [row_cell h8']; rfl
      | succ j => simp at hu, ⟨[.int .i64 best], [], rfl, ⟨rfl, hiN⟩, rfl⟩⟩⟩ (by simp; omega)
  obtain ⟨na, nl, nc, rfl⟩ : ∃ na nl nc, nv = .slice na nl nc := by
    rcases ho with ⟨rfl, _⟩ | ⟨_, _, _, _, _, _, rfl, _⟩ <;> exact ⟨_, _, _, rfl⟩
  have hoold : ∀ b o, oob = some (b, o) → b < W.heap.size ∧ w.heap.size ≤ b := fun b o e => own_lt (e ▸ hG.o)
  have hlold : ∀ b o, lob = some (b, o) → b < W.heap.size ∧ w.heap.size ≤ b := fun b o e => own_lt (e ▸ hG.l)
  have k54 : W4.heap[p5]? = some (.cells #[ov] 25 (0, 0)) := (a5 p5 (by omega) fun o e => (hG.d1 p5 o e).2.1 rfl).trans hG3.k5
  have k14 : W4.heap[p1]? = some (.cells #[sv] 22 (0, 0)) := (a5 p1 (by omega) fun o e => (hG.d1 p1 o e).1 rfl).trans hG3.k1
  have k74 : W4.heap[W1.heap.size]? = some (.cells #[.int .i64 best] 3 (0, 0)) := (a5 _ (by omega) fun o e => by have := hoold _ o e; omega).trans ((hb3.block _ hlt).trans h7)
  have hl4 : repOwn rI 1 W4 (fun b => w.heap.size ≤ b) (restL t (greS t k)) (.slice la (restL t (greS t k)).length lc) lob := own_blk hG3.l fun b o e => a5 b (by have := hlold b o e; omega) fun o' e' => (hG.d1 b o' e').2.2 o e
  have c54 : W4.cell? ⟨p5, 0, none⟩ = some ov := by rw [row_cell k54]; rfl
  have f54 : W4.frozen? ⟨p5, 0, none⟩ = false := row_warm k54
  show wpOpsIn _ _ _ _ _ [3, 4] _ _
  refine sp_val (v := .slice na nl nc) (w1 := W4) rfl rfl (run_app2 rfl (by simp [Act.eval]) (by simp [Act.eval]) hrun) ?_
  refine tail_ops 4 1 rfl ?_
  simp [qlg, Region.wanted, yielded, go_sem, Exit.then, c54, f54]
  rw [setCell_eq_setRow W4 p5 0 #[ov] 25 (0, 0) _ k54]
  generalize hW5 : W4.setRow p5 _ = W5
  have k55 : W5.heap[p5]? = some (.cells #[.slice na nl nc] 25 (0, 0)) := by rw [← hW5]; exact setRow_heap _ _ _ _ _ _ k54
  have hk5 : ∀ i, i ≠ p5 → W5.heap[i]? = W4.heap[i]? := fun i hi => by rw [← hW5]; exact setRow_other _ _ _ _ hi
  have sz5 : W5.heap.size = W4.heap.size := by rw [← hW5]; exact setRow_size _ _ _
  have hnob : ∀ b o, nob = some (b, o) → b ≠ p1 ∧ b ≠ p5 ∧ b ≠ W1.heap.size ∧ ∀ o', lob ≠ some (b, o') := fun b o e => by
    rcases a6 b o e with g | ⟨o', g⟩
    · exact ⟨by omega, by omega, by omega, fun o' e' => by have := hlold b o' e'; omega⟩
    · have := hG.d1 b o' g
      have := hoold b o' g
      exact ⟨(hG.d1 b o' g).1, (hG.d1 b o' g).2.1, by omega, (hG.d1 b o' g).2.2⟩
  have ho5 : repOwn rI 1 W5 (fun b => w.heap.size ≤ b) (greS t k ++ [best]) (.slice na nl nc) nob := own_S (own_blk ho fun b o e => hk5 b (hnob b o e).2.1) fun b o e => by
    rcases a6 b o e with g | ⟨o', g⟩
    · omega
    · exact (hoold b o' g).2
  have hl5 : repOwn rI 1 W5 (fun _ => True) (restL t (greS t k)) (.slice la (restL t (greS t k)).length lc) lob := own_S (own_blk hl4 fun b o e => hk5 b (hG.d2 b o e).2) fun _ _ _ => trivial
  have k75 : W5.heap[W1.heap.size]? = some (.cells #[.int .i64 best] 3 (0, 0)) := (hk5 _ (by omega)).trans k74
  have hfn2 := fn_greed2 (S := fun b => b = W1.heap.size) hiN rfl k75
  refine wpIn_seq (ql_region rfl ?_)
  simp [ql, go_sem, Exit.then]
  refine (delF_call hl5 (fun b o e => by have := hlold b o e; omega) hfn2).mono ?_
  rintro e W6 ⟨lv', lob', rfl, hl6, hlb, hbut⟩
  simp [ql, go_sem, Exit.then]
  refine wpIn_goto ?_
  have s5 := hbut.size
  have hmem : best ∈ restL t (greS t k) := by rw [← hbest]; exact maxI_mem _ hpos _ (Nat.le_refl _)
  have hrl := rest_len hmem
  rw [rest_snoc] at hrl
  obtain ⟨la2, lc2, rfl⟩ : ∃ la2 lc2, lv' = .slice la2 ((restL t (greS t k)).filter fun r => !(r == best)).length lc2 := by
    rcases hl6 with ⟨h, h', _⟩ | ⟨b, off, cap, cur, e, _, h, _⟩
    · exact ⟨none, 0, by rw [h, h']; rfl⟩
    · exact ⟨_, _, h⟩
  have hlob2 : ∀ b o, lob' = some (b, o) → b ≠ p1 ∧ b ≠ p5 ∧ w.heap.size ≤ b ∧ ∀ o', nob ≠ some (b, o') := fun b o e => by
    rcases hlb b o e with g | ⟨o', g⟩
    · exact ⟨by omega, by omega, by omega, fun o' e' => by have := (own_lt (e' ▸ ho5)).1; omega⟩
    · exact ⟨(hG.d2 b o' g).1, (hG.d2 b o' g).2, (hlold b o' g).2, fun o2 e' => (hnob b o2 e').2.2.2 o' g⟩
  have hgk : greS t (k + 1) = greS t k ++ [best] := by rw [← hbest]; rfl
  have hb03 : Below W.heap.size W W3 := hb02.trans (hb3.mono (by omega))
  refine ⟨rfl, ⟨_, _, _, _, _, _, _, _, _, _, _, _, _, _, _, _, _, _, _, _, _, _, _, _, _, _, _, k + 1, .slice na nl nc, nob, _, lob', rfl, by omega, ⟨?_, ?_, ?_, ?_, fun b o e => ⟨(hnob b o e).1, (hnob b o e).2.1, fun o' e' => (hlob2 b o' e').2.2.2 o e⟩, fun b o e => ⟨(hlob2 b o e).1, (hlob2 b o e).2.1⟩, hG.ne⟩, ?_⟩, ?_⟩
  · exact (hbut.block p1 (by omega) fun o e => (hG.d2 p1 o e).1 rfl).trans ((hk5 p1 hG.ne.1).trans k14)
  · exact (hbut.block p5 (by omega) fun o e => (hG.d2 p5 o e).2 rfl).trans k55
  · rw [hgk]
    exact own_blk ho5 fun b o e => hbut.block b (own_lt (e ▸ ho5)).1 fun o' e' => (hnob b o e).2.2.2 o' e'
  · rw [hgk, rest_snoc]
    exact own_S hl6 fun b o e => (hlob2 b o e).2.2.1
  · have e5 : W5.os = W4.os ∧ W5.tape = W4.tape ∧ W5.output = W4.output := by rw [← hW5]; exact ⟨rfl, rfl, rfl⟩
    refine ⟨hbut.os.trans (e5.1.trans (a1.trans (hb03.os.trans hb.os))), hbut.tape.trans (e5.2.1.trans (a2.trans (hb03.tape.trans hb.tape))), hbut.output.trans (e5.2.2.trans (a3.trans (hb03.output.trans hb.output))), by omega, fun i hi => ?_⟩
    rw [hbut.block i (by omega) fun o e => by have := (hlold i o e).2; omega, hk5 i (by have := hG.ne.2.2; omega), a5 i (by omega) fun o e => by have := (hoold i o e).2; omega, hb03.block i (by omega)]
    exact hb.block i hi
  · show ((restL t (greS t k)).filter fun r => !(r == best)).length < (restL t (greS t k)).length
    omega
end Go.Tk
/- suite.Greedy, by hand. -/
set_option linter.unusedSimpArgs false
set_option linter.unusedVariables false
set_option linter.unnecessarySimpa false
set_option maxRecDepth 10000
set_option maxHeartbeats 2000000
namespace Go.Tk
open Go Go.RowKit
theorem jump_mono {l : Nat} {J J' : Act → World → Prop} {Q : Exit → Act → World → Prop} (h : ∀ a w, J a w → J' a w) : ∀ e a w, Exit.jump l J Q e a w → Exit.jump l J' Q e a w := by
  intro e a w hh
  cases e <;> first | exact hh | exact ⟨hh.1, h _ _ hh.2⟩
theorem greedy_call {w : World} {S : Nat → Prop} {t : Ste} {tv : Value} (ht : (reps Go.Proofs.Try.prog tSte).c w S t [tv]) :
    Calls Go.Proofs.Try.prog 55 #[tv] w (grePost w t) := by
  have ht0 := ht
  obtain ⟨tv', etv, ao, cap, e2, h1, h2, h3⟩ := ht
  cases etv
  have e2 : tv = .slice ao t.length cap := e2
  subst e2
  have keepT : ∀ W : World, Below w.heap.size w W → (reps Go.Proofs.Try.prog tSte).c W (fun _ => True) t [.slice ao t.length cap] := fun W hb => c_mono tSte (c_keep tSte ht0 ⟨hb.size, fun b hb' _ => hb.block b hb'.lt⟩ fun _ _ h => h) fun _ _ _ => trivial
  go_enter Go.Proofs.Try.func55, Go.Proofs.Try.ntmps55
  refine (wpIn_wide (n := 0)).1 ?_
  show Code.wpIn (Fw none) 0 _ _ _ _ _
  refine wpIn_seq (ql_region rfl ?_)
  simp [ql, go_sem, Exit.then]
  generalize hW1 : w.alloc (.cells _ _) = W1
  have hk1 := heap_self w (.cells #[.slice ao t.length cap] 22)
  rw [hW1] at hk1
  have hb1 : Below w.heap.size w W1 := by rw [← hW1]; exact (Below.refl _ w).alloc (Nat.le_refl _) _
  have hres : ∀ (tm : Array Value) (W : World), (results Go.Proofs.Try.f55 tm).run Go.Proofs.Try.prog W = .ok (.tuple #[tm.getD 2 undef, tm.getD 3 undef]) W := fun tm W => by simp [results, Go.Proofs.Try.results55, go_sem]
  refine (wpIn_wide (n := 0)).2 ?_
  refine wp_scope_jumps 0 (fun a W => okT t ∧ ∃ p5, greJ w t w.heap.size p5 (.slice ao t.length cap) a W) (fun a _ => greM a) rfl ?_ ?_
  · refine (wpIn_wide (n := 0)).1 ?_
    show Code.wpIn (Fw none) 0 _ _ _ _ _
    have c1 : W1.cell? ⟨w.heap.size, 0, none⟩ = some (.slice ao t.length cap) := by rw [row_cell hk1]; rfl
    refine wpIn_seq (wpIn_seq (ql_region rfl ?_))
    simp [ql, go_sem, Exit.then, c1]
    refine (valS_call (keepT W1 hb1)).mono ?_
    rintro e W2 ⟨rfl, hi, hb2⟩
    have s1 := hb1.size
    have hb02 := hb1.trans (hb2.mono s1)
    by_cases hv : validT t = 0
    case neg =>
      simp [ql, go_sem, Exit.then, hv]
      refine wpIn_seq (ql_region rfl ?_)
      simp [ql, go_sem, Exit.then, hv]
      refine wpIn_cond_true (by simp [Act.eval, hv]) (wpIn_seq (ql_region rfl ?_))
      simp [ql, go_sem, Exit.then]
      refine wpIn_ret ?_
      refine ⟨rfl, _, hres _ _, .slice none 0 0, rfl, ?_, hi, hb02⟩
      rw [if_neg hv]
      exact ⟨_, rfl, none, 0, rfl, Nat.le_refl _, by simp, .inl rfl⟩
    have c0 := validT_ok.1 hv
    have h8 := c0.1
    simp [ql, go_sem, Exit.then, hv]
    refine wpIn_seq (ql_region rfl ?_)
    simp [ql, go_sem, Exit.then, hv]
    refine wpIn_cond_false (by simp [Act.eval]) (wpIn_skip ?_)
    simp only [Exit.then]
    refine wpIn_seq (ql_region rfl ?_)
    simp [ql, go_sem, Exit.then]
    generalize hW3 : W2.alloc (.cells _ _) = W3
    have hk5 := heap_self W2 (.cells #[.slice none 0 0] 25)
    rw [hW3] at hk5
    have hb3 : Below W2.heap.size W2 W3 := by rw [← hW3]; exact (Below.refl _ W2).alloc (Nat.le_refl _) _
    have s2 := hb2.size
    have s3 := hb3.size
    have l1 := lt_row hk1
    have hk13 : W3.heap[w.heap.size]? = some (.cells #[.slice ao t.length cap] 22 (0, 0)) := (hb3.block _ (by omega)).trans ((hb2.block _ l1).trans hk1)
    have c13 : W3.cell? ⟨w.heap.size, 0, none⟩ = some (.slice ao t.length cap) := by rw [row_cell hk13]; rfl
    have hb03 := hb02.trans (hb3.mono hb02.size)
    refine wpIn_seq (ql_region rfl ?_)
    simp [ql, go_sem, Exit.then, c13]
    refine (allO_call (by omega)).mono ?_
    rintro e W4 ⟨lv, lob, rfl, hl, hb4⟩
    have l5 := lt_row hk5
    simp [ql, go_sem, Exit.then]
    refine wpIn_seq (wpIn_label ?_)
    simp only [Exit.then]
    have hlo : ∀ b o, lob = some (b, o) → W3.heap.size ≤ b := fun b o e => (own_lt (e ▸ hl)).2
    have hl0 : repOwn rI 1 W4 (fun b => w.heap.size ≤ b) (restL t (greS t 0)) lv lob := by
      rw [show greS t 0 = [] from rfl, rest_nil]
      exact own_S hl fun b o e => by have := hlo b o e; omega
    refine wpIn_mono (gre_pass (p1 := w.heap.size) (p5 := W2.heap.size) (sv := .slice ao t.length cap) c0 keepT _ W4 ?_) (jump_mono fun a' w' h => ⟨c0, _, h.1⟩)
    exact ⟨_, _, _, _, _, _, _, _, _, _, _, _, _, _, _, _, _, _, _, _, _, _, _, _, _, _, _, 0, .slice none 0 0, none, lv, lob, rfl, Nat.zero_le _, ⟨(hb4.block _ (by omega)).trans hk13, (hb4.block _ l5).trans hk5, .inl ⟨rfl, rfl, rfl⟩, hl0, fun b o e => (by cases e), fun b o e => (by have := hlo b o e; exact ⟨by omega, by omega⟩), ⟨by omega, by omega, by omega⟩⟩, hb03.trans (hb4.mono hb03.size)⟩
  · rintro a W ⟨c0, p5, hJ⟩
    refine (wpIn_wide (n := 0)).1 ?_
    show Code.wpIn (Fw none) 0 _ _ _ _ _
    refine wpIn_seq (wpIn_skip ?_)
    simp only [Exit.then]
    exact wpIn_mono (gre_pass c0 keepT a W hJ) (jump_mono fun a' w' h => ⟨⟨c0, p5, h.1⟩, h.2⟩)
end Go.Tk
/- suite.Best: a closure that calls itself through a variable, and changes two variables of the caller's. -/
set_option linter.unusedSimpArgs false
set_option linter.unusedVariables false
set_option linter.unnecessarySimpa false
set_option maxRecDepth 10000
set_option maxHeartbeats 4000000
namespace Go.Tk
open Go Go.RowKit
attribute [local go_sem ↓] Go.wp_at_zero Go.wp_at_succ

theorem cell_below {B : Nat} {w w' : World} {b : Nat} {v : Value} (hb : Below B w w') (h : b < B) (hc : w.cell? ⟨b, 0, none⟩ = some v) : w'.cell? ⟨b, 0, none⟩ = some v := by
  simp only [World.cell?] at hc ⊢
  rw [hb.block b h]
  exact hc
theorem lt_of_row {w : World} {b : Nat} {o : Obj} (h : w.heap[b]? = some o) : b < w.heap.size := (Array.getElem?_eq_some_iff.1 h).1
theorem w64 {n : Int} (h1 : -9223372036854775808 ≤ n) (h2 : n ≤ 9223372036854775807) : wrap64 n = n := by unfold wrap64; omega
/-- Two blocks of the caller's may change. -/
abbrev TT (pl pb : Nat) : Nat → Prop := fun b => b = pl ∨ b = pb
abbrev NT (pl pb : Nat) : Nat → Prop := fun b => b ≠ pl ∧ b ≠ pb
theorem grow_below {T : Nat → Prop} {w w' : World} (h : Below w.heap.size w w') : Grow T w w' := ⟨h.os, h.tape, h.output, h.size, fun b hb _ => h.block b hb⟩
theorem grow_refl (T : Nat → Prop) (w : World) : Grow T w w := grow_below (Below.refl _ _)
theorem grow_tr {T : Nat → Prop} {a b c : World} (h : Grow T a b) (k : Grow T b c) : Grow T a c :=
  ⟨k.os.trans h.os, k.tape.trans h.tape, k.output.trans h.output, Nat.le_trans h.size k.size, fun i hi hn => (k.block i (by have := h.size; omega) hn).trans (h.block i hi hn)⟩
theorem c_grow {P : Program} (t : T) {pl pb : Nat} {w w' : World} {x : t.den} {cs : List Value} (h : (reps P t).c w (NT pl pb) x cs) (hg : Grow (TT pl pb) w w') : (reps P t).c w' (NT pl pb) x cs :=
  c_keep t h ⟨hg.size, fun b hb hlt => hg.block b hb.lt fun e => by
    rcases e with e | e
    · exact hlt.1 e
    · exact hlt.2 e⟩ fun b _ h => h
abbrev ND (n0 pl pb : Nat) : Nat → Prop := fun b => n0 ≤ b ∧ b ≠ pl ∧ b ≠ pb
theorem c_grow2 {P : Program} (t : T) {n0 pl pb : Nat} {w w' : World} {x : t.den} {cs : List Value} (h : (reps P t).c w (ND n0 pl pb) x cs) (hg : Grow (TT pl pb) w w') : (reps P t).c w' (ND n0 pl pb) x cs :=
  c_keep t h ⟨hg.size, fun b hb hlt => hg.block b hb.lt fun e => by
    rcases e with e | e
    · exact hlt.2.1 e
    · exact hlt.2.2 e⟩ fun b _ h => h
theorem c_nd {P : Program} (t : T) {n0 pl pb : Nat} {w : World} {x : t.den} {cs : List Value} (h : (reps P t).c w (ND n0 pl pb) x cs) : (reps P t).c w (NT pl pb) x cs := c_mono t h fun _ _ h => h.2
abbrev growV (pm pt pl pb pg : Nat) : Value := .func (.func 89) #[] #[.pointer (some ⟨pm, 0, none⟩), .pointer (some ⟨pt, 0, none⟩), .pointer (some ⟨pl, 0, none⟩), .pointer (some ⟨pb, 0, none⟩), .pointer (some ⟨pg, 0, none⟩)]
structure GrowW (el eb : TypeId) (pm pt pl pb pg : Nat) (many : Int) (sv bv : Value) (least : Int) (w : World) : Prop where
  m : w.heap[pm]? = some (.cells #[.int .i64 many] 3 (0, 0))
  t : w.heap[pt]? = some (.cells #[sv] 22 (0, 0))
  l : w.heap[pl]? = some (.cells #[.int .i64 least] el (0, 0))
  b : w.heap[pb]? = some (.cells #[bv] eb (0, 0))
  g : w.heap[pg]? = some (.cells #[growV pm pt pl pb pg] 71 (0, 0))
theorem GrowW.below {el eb : TypeId} {pm pt pl pb pg : Nat} {many : Int} {sv bv : Value} {least : Int} {w w' : World} (h : GrowW el eb pm pt pl pb pg many sv bv least w) (hb : Below w.heap.size w w') : GrowW el eb pm pt pl pb pg many sv bv least w' :=
  ⟨(hb.block _ (lt_of_row h.m)).trans h.m, (hb.block _ (lt_of_row h.t)).trans h.t, (hb.block _ (lt_of_row h.l)).trans h.l, (hb.block _ (lt_of_row h.b)).trans h.b, (hb.block _ (lt_of_row h.g)).trans h.g⟩

theorem bld_slice {W : World} {r : Int} (hr : inI r) {w' : World} (h : w'.heap[W.heap.size]? = some (.cells #[.int .i64 r] 3 (0, 0))) : repSl rI w' (fun _ => True) [r] (.slice (some ⟨W.heap.size, 0, none⟩) 1 1) := by
  refine ⟨_, 1, rfl, Nat.le_refl _, by simp, .inr ⟨W.heap.size, 0, [.int .i64 r], rfl, trivial, lt_of_row h, ?_, ⟨[.int .i64 r], [], rfl, ⟨rfl, hr⟩, rfl⟩⟩⟩
  intro j v hj
  cases j with
  | zero =>
    simp at hj
    subst hj
    simp [World.cell?, h]
  | succ j => simp at hj
theorem own_below {w w' : World} {xs : List Int} {v : Value} {ob : Option (Nat × Nat)} (h : repOwn rI 1 w (fun _ => True) xs v ob) (hb : Below w.heap.size w w') : repOwn rI 1 w' (fun _ => True) xs v ob := by
  rcases h with h | ⟨b, off, cap, cur, e, g1, g2, g3, g4, g5⟩
  · exact .inl h
  · exact .inr ⟨b, off, cap, cur, e, g1, g2, g3, (hb.block _ (lt_of_row g4)).trans g4, g5⟩
theorem app_below {W1 w w4 : World} {ob : Option (Nat × Nat)} (hb : Below W1.heap.size W1 w) (hob : ∀ b o, ob = some (b, o) → W1.heap.size ≤ b) (g2 : w4.os = w.os) (g3 : w4.tape = w.tape) (g4 : w4.output = w.output) (g5 : w.heap.size ≤ w4.heap.size) (g6 : ∀ i, i < w.heap.size → (∀ o, ob ≠ some (i, o)) → w4.heap[i]? = w.heap[i]?) : Below W1.heap.size W1 w4 :=
  ⟨g2.trans hb.os, g3.trans hb.tape, g4.trans hb.output, Nat.le_trans hb.size g5, fun b hlt => (g6 b (by have := hb.size; omega) fun o e => by have := hob b o e; omega).trans (hb.block b hlt)⟩
theorem growT_bd {t : Ste} {k : Nat} {pre : List Int} {sum : Int} {st : List Int × Int} (h0 : 0 ≤ st.2) (hs : 0 ≤ sum) : 0 ≤ (growT t k pre sum st).2 ∧ (growT t k pre sum st).2 ≤ st.2 := by
  have := best_pos t k pre
  unfold growT stepM shB
  split
  · rename_i h
    exact ⟨by show 0 ≤ sum + _; omega, Int.le_of_lt h⟩
  · exact ⟨h0, Int.le_refl _⟩
theorem growK_bd {t : Ste} {k : Nat} {pre : List Int} {sum : Int} {st : List Int × Int} (h0 : 0 ≤ st.2) (hs : 0 ≤ sum) : ∀ i, 0 ≤ (growK t k pre sum st i).2 ∧ (growK t k pre sum st i).2 ≤ st.2
  | 0 => ⟨h0, Int.le_refl _⟩
  | i + 1 => by
    have ih := growK_bd (t := t) (k := k) (pre := pre) (sum := sum) (st := st) h0 hs i
    rw [growK_succ]
    split
    · exact ih
    · have := growT_bd (t := t) (k := k) (pre := pre ++ [(i : Int)]) (sum := sum + leftT t pre) (st := growK t k pre sum st i) ih.1 (by omega)
      omega
theorem left_zero {t : Ste} {order : List Int} (h : restL t order = []) : leftT t order = 0 := by
  unfold leftT
  rw [List.length_eq_zero_iff, List.filter_eq_nil_iff]
  intro g hg
  have := open_hit hg
  obtain ⟨r, hr, e⟩ := List.any_eq_true.1 this
  have hro : r ∈ order := by
    apply Classical.byContradiction
    intro hn
    have : r ∈ restL t order := by
      unfold restL
      rw [List.mem_filter]
      exact ⟨hr, by simp [hn]⟩
    rw [h] at this; cases this
  unfold unmet
  rw [List.any_eq_true.2 ⟨r, hro, e⟩]
  simp
theorem ints_of_own {w : World} {n0 pl pb : Nat} {xs : List Int} {v : Value} {ob : Option (Nat × Nat)} (h : repOwn rI 1 w (fun _ => True) xs v ob) (hob : ∀ b o, ob = some (b, o) → ND n0 pl pb b) : (reps Go.Proofs.Try.prog tInts).c w (ND n0 pl pb) xs [v] :=
  ⟨v, rfl, repSl_of_own (S' := ND n0 pl pb) (R' := (reps Go.Proofs.Try.prog .int).c w (ND n0 pl pb)) h hob fun _ _ h => h⟩

section
variable {pm pt pl pb pg : Nat}
theorem grow_call {el eb : TypeId} {n0 : Nat} {t : Ste} (ht : okT t) {sv : Value} (h1 : pm ≠ pl) (h2 : pm ≠ pb) (h3 : pt ≠ pl) (h4 : pt ≠ pb) (h5 : pg ≠ pl) (h6 : pg ≠ pb) (h7 : pl ≠ pb) : ∀ (k : Nat) (order : List Int) (sum : Int) (st : List Int × Int) (w : World) (ov bv : Value),
    n0 ≤ w.heap.size → (restL t order).length = k → inT t order → order.length + k = t.length → 0 ≤ sum → sum ≤ 10 * order.length → 0 ≤ st.2 → st.2 ≤ 1000 → GrowW el eb pm pt pl pb pg (openL t).length sv bv st.2 w →
    (reps Go.Proofs.Try.prog tSte).c w (NT pl pb) t [sv] → (reps Go.Proofs.Try.prog tInts).c w (ND n0 pl pb) order [ov] → (reps Go.Proofs.Try.prog tInts).c w (ND n0 pl pb) st.1 [bv] →
    Calls Go.Proofs.Try.prog 89 #[ov, .int .i64 sum, .pointer (some ⟨pm, 0, none⟩), .pointer (some ⟨pt, 0, none⟩), .pointer (some ⟨pl, 0, none⟩), .pointer (some ⟨pb, 0, none⟩), .pointer (some ⟨pg, 0, none⟩)] w fun e w' =>
      e = .returned (.tuple #[]) ∧ Grow (TT pl pb) w w' ∧ ∃ bv', GrowW el eb pm pt pl pb pg (openL t).length sv bv' (growT t k order sum st).2 w' ∧ (reps Go.Proofs.Try.prog tInts).c w' (ND n0 pl pb) (growT t k order sum st).1 [bv'] := by
  have hres : ∀ (tm : Array Value) (W : World), (results Go.Proofs.Try.f89 tm).run Go.Proofs.Try.prog W = .ok (.tuple #[]) W := fun tm W => by simp [results, Go.Proofs.Try.results89, go_sem]
  intro k
  induction k with
  | zero =>
    intro order sum st w ov bv hn0 hk hin hlen hs0 hs1 hl0 hl1 hW hT hO hB
    obtain ⟨cm, _⟩ := cell_row0 hW.m
    obtain ⟨ct, _⟩ := cell_row0 hW.t
    obtain ⟨cl, fl⟩ := cell_row0 hW.l
    obtain ⟨cb, fb⟩ := cell_row0 hW.b
    obtain ⟨cg, _⟩ := cell_row0 hW.g
    have hmet : ∀ w', Below w.heap.size w w' → Calls Go.Proofs.Try.prog 81 #[sv, ov] w' fun e w'' => ∃ ao c, e = .returned (.slice ao (metL t order).length c) ∧ Below w'.heap.size w' w'' := fun w' hb =>
      met_call (c_grow tSte hT (grow_below hb)) (c_nd tInts (c_grow2 tInts hO (grow_below hb))) ht hin
    have hS : ∀ w', Below w.heap.size w w' → w'.cell? ⟨pm, 0, none⟩ = some (.int .i64 (openL t).length) ∧ w'.cell? ⟨pt, 0, none⟩ = some sv ∧ Below w.heap.size w w' := fun w' hb => ⟨cell_below hb (lt_of_row hW.m) cm, cell_below hb (lt_of_row hW.t) ct, hb⟩
    go_enter Go.Proofs.Try.func89, Go.Proofs.Try.ntmps89
    refine (wpIn_wide (n := 0)).1 ?_
    show Code.wpIn (Fw none) 0 _ _ _ _ _
    refine wpIn_seq ((wpIn_wide (n := 0)).2 ?_)
    go_region_held3 (fun w' => w'.cell? ⟨pm, 0, none⟩ = some (.int .i64 (openL t).length) ∧ w'.cell? ⟨pt, 0, none⟩ = some sv ∧ Below w.heap.size w w') ((refine hS _ ?_; first | exact (Below.refl _ _).drew | exact hq.trans (hb.mono hq.size))) (first | (go_at_call 81; refine (hmet _ (And.right (And.right ‹_ ∧ _ ∧ Below w.heap.size w _›))).mono ?_; rintro e w' ⟨ao, c, rfl, hb⟩; have hq := And.right (And.right ‹_ ∧ _ ∧ Below w.heap.size w _›)))
    have hHeld := ‹_ ∧ _ ∧ Below w.heap.size w w'›
    obtain ⟨c3m, c3t, hb3⟩ := hHeld
    have c3l := cell_below hb3 (lt_of_row hW.l) cl
    simp only [Exit.then]
    refine wpIn_seq (wpIn_seq ((wpIn_wide (n := 0)).2 ?_))
    have hm := left_met hin
    have hml := metL_len t order
    have hol := openL_len t
    have h10 := ht.2.1
    have h8 := ht.1
    have hz0 := left_zero (List.length_eq_zero_iff.1 hk)
    rw [hz0] at hm
    have w1 : wrap64 (((openL t).length : Int) - ((metL t order).length : Int)) = 0 := by
      rw [hm]; exact w64 (by omega) (by omega)
    have w2 : wrap64 (sum + 0) = sum := by rw [Int.add_zero]; exact w64 (by omega) (by omega)
    obtain ⟨sa, sc, esv⟩ : ∃ ao c, sv = .slice ao t.length c := by
      obtain ⟨u, e, ao, c, e2, _⟩ := hT
      cases e
      exact ⟨ao, c, e2⟩
    obtain ⟨oa, oc, eov⟩ : ∃ ao c, ov = .slice ao order.length c := by
      obtain ⟨u, e, ao, c, e2, _⟩ := hO
      cases e
      exact ⟨ao, c, e2⟩
    subst esv
    subst eov
    have hend := grow_end t order sum st
    clear hS hmet hq hb hm hml hol cm ct cl cb cg
    have g2 : ¬ 0 < wrap64 (((openL t).length : Int) - ((metL t order).length : Int)) := by rw [w1]; omega
    by_cases hc : st.2 ≤ sum
    · have g1 : st.2 ≤ wrap64 (sum + wrap64 (((openL t).length : Int) - ((metL t order).length : Int))) := by rw [w1, w2]; exact hc
      have hend : growT t 0 order sum st = st := by rw [hend, if_neg (by omega)]
      clear w1 w2
      go_wp2
      refine wpIn_cond_true (by simp [Act.eval]) (wpIn_ret ?_)
      simp only [Exit.then]
      try rw [hend]
      exact ⟨rfl, _, hres _ _, rfl, grow_below hb3, bv, hW.below hb3, c_grow2 tInts hB (grow_below hb3)⟩
    · have g1 : ¬ st.2 ≤ wrap64 (sum + wrap64 (((openL t).length : Int) - ((metL t order).length : Int))) := by rw [w1, w2]; exact hc
      have hend : growT t 0 order sum st = (order, sum) := by rw [hend, if_pos (by omega)]
      have hend : Shut (growT t 0 order sum st = (order, sum)) := hend
      have hw1 : Shut (wrap64 (((openL t).length : Int) - ((metL t order).length : Int)) = 0) := w1
      clear w1 w2
      go_wp2
      rw [hw1.out]
      refine wpIn_cond_false (by simp [Act.eval]) (wpIn_skip ?_)
      simp only [Exit.then]
      refine wpIn_seq (wpIn_seq (wl_region rfl ?_))
      simp [wl, go_sem, Exit.then, c3t]
      have hW3 := hW.below hb3
      obtain ⟨c3b, f3b⟩ := cell_row0 hW3.b
      refine wpIn_cond_true (by simp [Act.eval]; omega) (wpIn_seq (wl_region rfl ?_))
      have k4 : (w'.setCell ⟨pb, 0, none⟩ (.slice oa order.length oc)).heap[pl]? = some (.cells #[.int .i64 st.2] el (0, 0)) := (Below.heap_setCell _ _ _ _ h7).trans hW3.l
      obtain ⟨c4l, f4l⟩ := cell_row0 k4
      simp [wl, go_sem, Exit.then, c3b, f3b, c4l, f4l]
      refine wpIn_ret ?_
      simp only [Exit.then]
      try rw [hend.out]
      have hg : Grow (TT pl pb) w' ((w'.setCell ⟨pb, 0, none⟩ (.slice oa order.length oc)).setCell ⟨pl, 0, none⟩ (.int .i64 sum)) := by
        refine ⟨rfl, rfl, rfl, by simp [World.setCell], fun b hb hn => ?_⟩
        exact (Below.heap_setCell _ _ _ _ fun e => hn (.inl e)).trans (Below.heap_setCell _ _ _ _ fun e => hn (.inr e))
      have k5 := heap_setCell_row (.int .i64 sum) k4
      have k6 : ((w'.setCell ⟨pb, 0, none⟩ (.slice oa order.length oc)).setCell ⟨pl, 0, none⟩ (.int .i64 sum)).heap[pb]? = some (.cells #[.slice oa order.length oc] eb (0, 0)) := (Below.heap_setCell _ _ _ _ h7.symm).trans (heap_setCell_row _ hW3.b)
      have hgr := grow_tr (grow_below (T := TT pl pb) hb3) hg
      have hk : ∀ b, b < w'.heap.size → b ≠ pl → b ≠ pb → ((w'.setCell ⟨pb, 0, none⟩ (.slice oa order.length oc)).setCell ⟨pl, 0, none⟩ (.int .i64 sum)).heap[b]? = w'.heap[b]? := fun b hb n1 n2 => hg.block b hb fun e => by
        rcases e with e | e
        · exact n1 e
        · exact n2 e
      exact ⟨rfl, _, hres _ _, rfl, hgr, _, ⟨(hk _ (lt_of_row hW3.m) h1 h2).trans hW3.m, (hk _ (lt_of_row hW3.t) h3 h4).trans hW3.t, k5, k6, (hk _ (lt_of_row hW3.g) h5 h6).trans hW3.g⟩, c_grow2 tInts hO hgr⟩
  | succ k ih =>
    intro order sum st w ov bv hn0 hk hin hlen hs0 hs1 hl0 hl1 hW hT hO hB
    obtain ⟨cm, _⟩ := cell_row0 hW.m
    obtain ⟨ct, _⟩ := cell_row0 hW.t
    obtain ⟨cl, fl⟩ := cell_row0 hW.l
    obtain ⟨cb, fb⟩ := cell_row0 hW.b
    obtain ⟨cg, _⟩ := cell_row0 hW.g
    have hmet : ∀ w', Below w.heap.size w w' → Calls Go.Proofs.Try.prog 81 #[sv, ov] w' fun e w'' => ∃ ao c, e = .returned (.slice ao (metL t order).length c) ∧ Below w'.heap.size w' w'' := fun w' hb =>
      met_call (c_grow tSte hT (grow_below hb)) (c_nd tInts (c_grow2 tInts hO (grow_below hb))) ht hin
    have hS : ∀ w', Below w.heap.size w w' → w'.cell? ⟨pm, 0, none⟩ = some (.int .i64 (openL t).length) ∧ w'.cell? ⟨pt, 0, none⟩ = some sv ∧ Below w.heap.size w w' := fun w' hb => ⟨cell_below hb (lt_of_row hW.m) cm, cell_below hb (lt_of_row hW.t) ct, hb⟩
    go_enter Go.Proofs.Try.func89, Go.Proofs.Try.ntmps89
    refine (wpIn_wide (n := 0)).1 ?_
    show Code.wpIn (Fw none) 0 _ _ _ _ _
    refine wpIn_seq ((wpIn_wide (n := 0)).2 ?_)
    go_region_held3 (fun w' => w'.cell? ⟨pm, 0, none⟩ = some (.int .i64 (openL t).length) ∧ w'.cell? ⟨pt, 0, none⟩ = some sv ∧ Below w.heap.size w w') ((refine hS _ ?_; first | exact (Below.refl _ _).drew | exact hq.trans (hb.mono hq.size))) (first | (go_at_call 81; refine (hmet _ (And.right (And.right ‹_ ∧ _ ∧ Below w.heap.size w _›))).mono ?_; rintro e w' ⟨ao, c, rfl, hb⟩; have hq := And.right (And.right ‹_ ∧ _ ∧ Below w.heap.size w _›)))
    have hHeld := ‹_ ∧ _ ∧ Below w.heap.size w w'›
    obtain ⟨c3m, c3t, hb3⟩ := hHeld
    have c3l := cell_below hb3 (lt_of_row hW.l) cl
    simp only [Exit.then]
    refine wpIn_seq (wpIn_seq ((wpIn_wide (n := 0)).2 ?_))
    have hm := left_met hin
    have hml := metL_len t order
    have hol := openL_len t
    have h10 := ht.2.1
    have h8 := ht.1
    have w1 : wrap64 (((openL t).length : Int) - ((metL t order).length : Int)) = (leftT t order : Int) := by
      rw [hm]; exact w64 (by omega) (by omega)
    have w2 : wrap64 (sum + (leftT t order : Int)) = sum + (leftT t order : Int) := w64 (by omega) (by omega)
    have hne : restL t order ≠ [] := fun e => by rw [e] at hk; simp at hk
    have hcut : st.2 ≤ sum + (leftT t order : Int) → growT t (k + 1) order sum st = st := fun h => grow_cut hne h
    have hgo := @growK_all t k order sum st hne
    have hL10 := left_bound ht order
    obtain ⟨sa, sc, esv⟩ : ∃ ao c, sv = .slice ao t.length c := by
      obtain ⟨u, e, ao, c, e2, _⟩ := hT
      cases e
      exact ⟨ao, c, e2⟩
    obtain ⟨oa, oc, eov⟩ : ∃ ao c, ov = .slice ao order.length c := by
      obtain ⟨u, e, ao, c, e2, _⟩ := hO
      cases e
      exact ⟨ao, c, e2⟩
    subst esv
    subst eov
    clear hS hmet hq hb hm hml hol hgo cm ct cl cb cg
    by_cases hc : st.2 ≤ sum + (leftT t order : Int)
    · have hcut := hcut hc
      have g1 : st.2 ≤ wrap64 (sum + wrap64 (((openL t).length : Int) - ((metL t order).length : Int))) := by rw [w1, w2]; exact hc
      by_cases hz : 0 < leftT t order
      · have g2 : 0 < wrap64 (((openL t).length : Int) - ((metL t order).length : Int)) := by rw [w1]; omega
        clear w1 w2
        go_wp2
        refine wpIn_cond_true (by simp [Act.eval]) (wpIn_ret ?_)
        simp only [Exit.then]
        rw [hcut]
        exact ⟨rfl, _, hres _ _, rfl, grow_below hb3, bv, hW.below hb3, c_grow2 tInts hB (grow_below hb3)⟩
      · have g2 : ¬ 0 < wrap64 (((openL t).length : Int) - ((metL t order).length : Int)) := by rw [w1]; omega
        have g3 : st.2 ≤ sum := by omega
        clear w1 w2
        go_wp2
        refine wpIn_cond_true (by simp [Act.eval]) (wpIn_ret ?_)
        simp only [Exit.then]
        try rw [hcut]
        exact ⟨rfl, _, hres _ _, rfl, grow_below hb3, bv, hW.below hb3, c_grow2 tInts hB (grow_below hb3)⟩
    · have g1 : ¬ st.2 ≤ wrap64 (sum + wrap64 (((openL t).length : Int) - ((metL t order).length : Int))) := by rw [w1, w2]; exact hc
      have hw1 : Shut (wrap64 (((openL t).length : Int) - ((metL t order).length : Int)) = (leftT t order : Int)) := w1
      have hww : Shut (IntKind.i64.wrap (((openL t).length : Int) - ((metL t order).length : Int)) = (leftT t order : Int)) := by
        have hm := left_met hin
        rw [hm]; exact wrap_in (by unfold inI; omega)
      have hw2 : Shut (wrap64 (sum + (leftT t order : Int)) = sum + (leftT t order : Int)) := w2
      clear w1 w2 hcut
      go_wp2
      rw [hw1.out]
      refine wpIn_cond_false (by simp [Act.eval]) (wpIn_skip ?_)
      simp only [Exit.then]
      refine wpIn_seq (wpIn_seq (wl_region rfl ?_))
      simp [wl, go_sem, Exit.then, c3t]
      refine wpIn_cond_false (by simp [Act.eval]; omega) (wpIn_skip ?_)
      simp only [Exit.then]
      refine wpIn_seq (wl_region rfl ?_)
      simp [wl, go_sem, Exit.then, c3t]
      refine wpIn_block (wp_loopAt ?_)
      have w1 : IntKind.i64.wrap (((openL t).length : Int) - ((metL t order).length : Int)) = (leftT t order : Int) := hww.out
      rw [w1]
      obtain ⟨A, hA⟩ : ∃ A : Nat → Act → World → Prop, A = fun m a W => ∃ x7 x8 x10 x11 x12 x13 x14 x15 x16 x17 x18 x19 x20 x21 x22 x23 x24 x25 x26 x27 x28 x29 x30 x31 x32 x33 x34 x35 x36 x37 x38 x41 x42 x43 x44 x45 x46 x47 x48 x49 x50 x51 x52 x53 x54 x55 x56 x57 : Value, a = ⟨#[.slice oa order.length oc, .int .i64 sum, .pointer (some ⟨pm, 0, none⟩), .pointer (some ⟨pt, 0, none⟩), .pointer (some ⟨pl, 0, none⟩), .pointer (some ⟨pb, 0, none⟩), .pointer (some ⟨pg, 0, none⟩), x7, x8, .int .i64 (leftT t order), x10, x11, x12, x13, x14, x15, x16, x17, x18, x19, x20, x21, x22, x23, x24, x25, x26, x27, x28, x29, x30, x31, x32, x33, x34, x35, x36, x37, x38, .int .i64 t.length, .int .i64 m, x41, x42, x43, x44, x45, x46, x47, x48, x49, x50, x51, x52, x53, x54, x55, x56, x57], []⟩ ∧ Grow (TT pl pb) w W ∧ ∃ bv', GrowW el eb pm pt pl pb pg (openL t).length (.slice sa t.length sc) bv' (growK t k order sum st m).2 W ∧ (reps Go.Proofs.Try.prog tInts).c W (ND n0 pl pb) (growK t k order sum st m).1 [bv'] := ⟨_, rfl⟩
      refine loop_up (n := t.length) A ?_ ?_ 0 (by omega) _ _ (by rw [hA]; exact ⟨_, _, _, _, _, _, _, _, _, _, _, _, _, _, _, _, _, _, _, _, _, _, _, _, _, _, _, _, _, _, _, _, _, _, _, _, _, _, _, _, _, _, _, _, _, _, _, _, rfl, grow_below hb3, bv, hW.below hb3, c_grow2 tInts hB (grow_below hb3)⟩)
      · intro a W ha
        rw [hA] at ha
        revert ha
        rintro ⟨x7, x8, x10, x11, x12, x13, x14, x15, x16, x17, x18, x19, x20, x21, x22, x23, x24, x25, x26, x27, x28, x29, x30, x31, x32, x33, x34, x35, x36, x37, x38, x41, x42, x43, x44, x45, x46, x47, x48, x49, x50, x51, x52, x53, x54, x55, x56, x57, rfl, hgr, bv2, hW2, hB2⟩
        refine wpIn_seq (wl_region rfl ?_)
        simp [wl, go_sem, Exit.then]
        refine wpIn_seq (wpIn_cond_false (by simp [Act.eval]) (wpIn_exit ?_))
        simp only [Exit.then, Exit.inBlock, if_true]
        rw [growK_all hne] at hW2 hB2
        exact ⟨rfl, _, hres _ _, rfl, hgr, bv2, hW2, hB2⟩
      · intro m a W hm ha
        rw [hA] at ha
        revert ha
        rintro ⟨x7, x8, x10, x11, x12, x13, x14, x15, x16, x17, x18, x19, x20, x21, x22, x23, x24, x25, x26, x27, x28, x29, x30, x31, x32, x33, x34, x35, x36, x37, x38, x41, x42, x43, x44, x45, x46, x47, x48, x49, x50, x51, x52, x53, x54, x55, x56, x57, rfl, hgr, bv2, hW2, hB2⟩
        refine wpIn_seq (wl_region rfl ?_)
        simp [wl, go_sem, Exit.then]
        refine wpIn_seq (wpIn_cond_true (by simp [Act.eval]; omega) (wpIn_skip ?_))
        simp only [Exit.then]
        refine wpIn_seq (wpIn_block (wpIn_seq (wl_region rfl ?_)))
        simp [wl, go_sem, Exit.then]
        refine wpIn_seq (wl_region rfl ?_)
        simp [wl, go_sem, Exit.then, Exit.inBlock]
        have hmI : inI (m : Int) := by unfold inI; omega
        refine (cont_call (r := (m : Int)) (c_grow2 tInts hO hgr) hmI).mono ?_
        rintro e W1 ⟨rfl, hbW1⟩
        simp [wl, go_sem, Exit.then, Exit.inBlock]
        have hW1 := hW2.below hbW1
        have hB1 := c_grow2 tInts hB2 (grow_below (T := TT pl pb) hbW1)
        have hgr1 := grow_tr hgr (grow_below (T := TT pl pb) hbW1)
        by_cases hmem : (m : Int) ∈ order
        · refine wpIn_cond_false (by simp [Act.eval, hmem]) (wpIn_skip ?_)
          simp only [Exit.then, Exit.inBlock]
          refine wl_region rfl ?_
          simp [wl, go_sem, Exit.then]
          rw [show IntKind.i64.wrap ((m : Int) + 1) = ((m + 1 : Nat) : Int) from wrap_in (by unfold inI; omega), hA]
          have eg : growK t k order sum st (m + 1) = growK t k order sum st m := by rw [growK_succ, if_pos hmem]
          exact ⟨_, _, _, _, _, _, _, _, _, _, _, _, _, _, _, _, _, _, _, _, _, _, _, _, _, _, _, _, _, _, _, _, _, _, _, _, _, _, _, _, _, _, _, _, _, _, _, _, rfl, hgr1, bv2, by rw [eg]; exact hW1, by rw [eg]; exact hB1⟩
        · refine wpIn_cond_true (by simp [Act.eval, hmem]) ((wpIn_wide (n := 0)).2 ?_)
          obtain ⟨cg1, _⟩ := cell_row0 hW1.g
          have lt1 := lt_of_row hW1.g
          have hO1 := c_grow2 tInts hO hgr1
          have hT1 := c_grow tSte hT hgr1
          have hol2 : order.length ≤ 1000000 := by omega
          have hcl : ∀ w', Below W1.heap.size W1 w' → Calls Go.Proofs.Try.prog 91 #[.slice oa order.length oc] w' fun e w'' => ∃ (v : Value) (ob : Option (Nat × Nat)), e = .returned v ∧ repOwn rI 1 w'' (fun _ => True) order v ob ∧ (∀ b off, ob = some (b, off) → W1.heap.size ≤ b) ∧ Below w'.heap.size w' w'' ∧ Below W1.heap.size W1 w'' := fun w' hb => by
            refine (clone_call (c_grow2 tInts hO1 (grow_below (T := TT pl pb) hb)) hol2).mono ?_
            rintro e w'' ⟨v, ob, rfl, g1, g2, g3⟩
            have := hb.size
            exact ⟨v, ob, rfl, g1, fun b off h => by have := g2 b off h; omega, g3, hb.trans (g3.mono hb.size)⟩
          have hKg : ∀ w', Below W1.heap.size W1 w' → w'.cell? ⟨pg, 0, none⟩ = some (growV pm pt pl pb pg) := fun w' hb => cell_below hb lt1 cg1
          have ltl := lt_of_row hW1.l
          have ltb := lt_of_row hW1.b
          have hsum : IntKind.i64.wrap (sum + (leftT t order : Int)) = sum + (leftT t order : Int) := wrap_in (by unfold inI; omega)
          have hmr : (m : Int) ∈ restL t order := rest_mem.2 ⟨⟨by omega, by omega⟩, hmem⟩
          have hkN : (restL t (order ++ [(m : Int)])).length = k := by have := rest_len hmr; omega
          have hbd := growK_bd (t := t) (k := k) (pre := order) (sum := sum) (st := st) hl0 hs0 m
          have hin2 := inT_snoc hin hm
          have ihm : ∀ (w4 : World) (v4 : Value), Below W1.heap.size W1 w4 → (reps Go.Proofs.Try.prog tInts).c w4 (ND n0 pl pb) (order ++ [(m : Int)]) [v4] → Calls Go.Proofs.Try.prog 89 #[v4, .int .i64 (sum + (leftT t order : Int)), .pointer (some ⟨pm, 0, none⟩), .pointer (some ⟨pt, 0, none⟩), .pointer (some ⟨pl, 0, none⟩), .pointer (some ⟨pb, 0, none⟩), .pointer (some ⟨pg, 0, none⟩)] w4 fun e w' =>
              e = .returned (.tuple #[]) ∧ Grow (TT pl pb) w w' ∧ ∃ bv', GrowW el eb pm pt pl pb pg (openL t).length (.slice sa t.length sc) bv' (growK t k order sum st (m + 1)).2 w' ∧ (reps Go.Proofs.Try.prog tInts).c w' (ND n0 pl pb) (growK t k order sum st (m + 1)).1 [bv'] := fun w4 v4 hb h => by
            refine (ih (order ++ [(m : Int)]) (sum + (leftT t order : Int)) (growK t k order sum st m) w4 v4 bv2 (Nat.le_trans hn0 (Nat.le_trans hgr1.size hb.size)) hkN hin2 (by simp; omega) (by omega) (by simp; omega) hbd.1 (by omega) (hW1.below hb) (c_grow tSte hT1 (grow_below hb)) h (c_grow2 tInts hB1 (grow_below hb))).mono ?_
            rintro e w5 ⟨rfl, hg5, bv5, hW5, hB5⟩
            refine ⟨rfl, grow_tr hgr1 (grow_tr (grow_below hb) hg5), bv5, ?_, ?_⟩
            · rw [growK_succ, if_neg hmem]; exact hW5
            · rw [growK_succ, if_neg hmem]; exact hB5
          have hgs := hgr1.size
          have hobN : ∀ b, W1.heap.size ≤ b → ND n0 pl pb b := fun b h => ⟨by omega, by omega, by omega⟩
          have hlen2 : order.length + [(m : Int)].length ≤ 4294967296 := by simp; omega
          clear hW2 hB2 hW hT hO hB hbW1 hgr hw1 hw2 g1 hc c3m c3t c3l hb3 w1 ih hbd hkN hmr hin2 hW1 hB1 hgr1 hO1 hT1 hol2
          go_region_held3 (fun w' => w'.cell? ⟨pg, 0, none⟩ = some (growV pm pt pl pb pg)) ((first | exact hcR | exact hKg _ hbA | exact hKg _ (hbB.alloc hbB.size _) | exact hKg _ hbB | exact hKg _ (((Below.refl _ _).drew).alloc (Nat.le_refl _) _) | exact hKg _ (Below.refl _ _).drew))
            (first
              | (go_at_call 91; refine (hcl _ (by first | exact (Below.refl _ _).drew | exact ((Below.refl _ _).drew).alloc (Nat.le_refl _) _)).mono ?_; rintro e w3 ⟨v3, ob3, rfl, hown, hob3, hbC, hbB⟩)
              | (refine step_app (by rfl) _ _ (by rfl) (by rfl) (by rfl) (own_below hown ((Below.refl _ _).alloc (Nat.le_refl _) _)) (bld_slice hmI (heap_alloc_new _ _)) hlen2 ?_; intro v4 w4 ob4 hA1 hA2 hA3 hA4 hA5 hA6 hA7; have hbA := app_below (hbB.alloc hbB.size _) hob3 hA2 hA3 hA4 hA5 hA6; have hR4 := ints_of_own (pl := pl) (pb := pb) hA1 fun b o e => hobN b (by rcases hA7 b o e with h | ⟨o', h⟩ <;> first | exact Nat.le_trans (hbB.alloc hbB.size _).size h | exact hob3 b o' h))
              | (refine step_app (by rfl) _ _ (by rfl) (by rfl) (by rfl) hown (bld_slice hmI ((hbC.block _ (by simp)).trans (heap_alloc_new _ _))) hlen2 ?_; intro v4 w4 ob4 hA1 hA2 hA3 hA4 hA5 hA6 hA7; have hbA := app_below hbB hob3 hA2 hA3 hA4 hA5 hA6; have hR4 := ints_of_own (pl := pl) (pb := pb) hA1 fun b o e => hobN b (by rcases hA7 b o e with h | ⟨o', h⟩ <;> first | exact Nat.le_trans hbB.size h | exact hob3 b o' h))
              | (go_at_call 89; refine (ihm _ _ hbA hR4).mono ?_; rintro e w5 ⟨rfl, hg5, bv5, hW5, hB5⟩; have hcR := And.left (cell_row0 hW5.g)))
          all_goals
            simp only [Exit.then, Exit.inBlock]
            refine wl_region rfl ?_
            simp [wl, go_sem, Exit.then]
            rw [show IntKind.i64.wrap ((m : Int) + 1) = ((m + 1 : Nat) : Int) from wrap_in (by unfold inI; omega), hA]
            exact ⟨_, _, _, _, _, _, _, _, _, _, _, _, _, _, _, _, _, _, _, _, _, _, _, _, _, _, _, _, _, _, _, _, _, _, _, _, _, _, _, _, _, _, _, _, _, _, _, _, rfl, hg5, bv5, hW5, hB5⟩
end
end Go.Tk
/- suite.Best: the order with the smallest wait. -/
set_option linter.unusedSimpArgs false
set_option linter.unusedVariables false
set_option linter.unnecessarySimpa false
set_option maxRecDepth 10000
set_option maxHeartbeats 4000000
namespace Go.Tk
open Go Go.RowKit
attribute [local go_sem ↓] Go.wp_at_zero Go.wp_at_succ
theorem arr31 (x : Array Value) (h : x.size = 31) : ∃ x0 x1 x2 x3 x4 x5 x6 x7 x8 x9 x10 x11 x12 x13 x14 x15 x16 x17 x18 x19 x20 x21 x22 x23 x24 x25 x26 x27 x28 x29 x30 : Value, x = #[x0, x1, x2, x3, x4, x5, x6, x7, x8, x9, x10, x11, x12, x13, x14, x15, x16, x17, x18, x19, x20, x21, x22, x23, x24, x25, x26, x27, x28, x29, x30] := by
  obtain ⟨l⟩ := x
  match l, h with
  | [x0, x1, x2, x3, x4, x5, x6, x7, x8, x9, x10, x11, x12, x13, x14, x15, x16, x17, x18, x19, x20, x21, x22, x23, x24, x25, x26, x27, x28, x29, x30], _ => exact ⟨_, _, _, _, _, _, _, _, _, _, _, _, _, _, _, _, _, _, _, _, _, _, _, _, _, _, _, _, _, _, _, rfl⟩
theorem wait_bd {t : Ste} (ht : okT t) {o : List Int} (ho : o.length ≤ 8) : 0 ≤ waitL t o ∧ waitL t o ≤ 90 := by
  have h := sum_bound (l := openL t) (f := waitG t o) (a := 0) (b := 9) fun g _ => by
    have := idxF_bound (fun r => hits t r g.toNat) o
    unfold waitG
    omega
  have h2 := openL_len t
  have h3 := ht.2.1
  unfold waitL
  omega

theorem best_post {P : Program} {w W : World} {t : Ste} {l : List Int} {n : Int} {v : Value} (hb : Below w.heap.size w W) (hl : (if validT t = 0 then (bestT t).1 else []) = l) (hn : (if validT t = 0 then (bestT t).2 else 0) = n) (hi : inI n) (h : (reps P (.sl .int)).c W (fun b => w.heap.size ≤ b) l [v]) :
    ∃ rs, Ending.returned (.tuple #[v, .int .i64 n, .int .i64 (validT t)]) = .returned (mkRes rs) ∧ ∃ x, (reps P (T.int.sl.cons (T.int.cons (T.int.cons T.nil)))).v W (fun b => w.heap.size ≤ b ∧ ¬b ∈ x) (if validT t = 0 then (bestT t).1 else [], if validT t = 0 then (bestT t).2 else 0, validT t, ()) rs x ∧ x.Nodup ∧ (∀ b ∈ x, w.heap.size ≤ b) ∧ Below w.heap.size w W := by
  rw [hl, hn]
  exact ⟨[v, .int .i64 n, .int .i64 (validT t)], rfl, [], ⟨_, _, [], [], rfl, rfl, ⟨rfl, [v], rfl, c_mono (.sl .int) h fun b _ hb => ⟨hb, by simp⟩⟩, _, _, [], [], rfl, rfl, ⟨rfl, [.int .i64 n], rfl, rfl, hi⟩, _, _, [], [], rfl, rfl, ⟨rfl, [.int .i64 (validT t)], rfl, rfl, validT_in t⟩, rfl, rfl⟩, by simp, by simp, hb⟩
abbrev cBest : Con := { A := (.cons (.sl (.sl .int)) .nil), R := (.cons (.sl .int) (.cons .int (.cons .int .nil))), pre := fun x => True, F := fun x => ((if validT x.1 = 0 then (bestT x.1).1 else []), (if validT x.1 = 0 then (bestT x.1).2 else 0), validT x.1, ()) }
theorem cBest_ok : ConOK Go.Proofs.Try.prog 43 cBest := by
  refine ConOK.f ?_ rfl
  rintro w S ⟨t, ⟨⟩⟩ vs hv _
  change Ste at t
  obtain ⟨v, vs', b1, b2, rfl, e2, h1, h2⟩ := hv
  obtain ⟨rfl, _⟩ : vs' = [] ∧ _ := h2
  obtain ⟨_, cs, rfl, hc⟩ := h1
  obtain ⟨sv, rfl, hsv⟩ : ∃ sv, cs = [sv] ∧ _ := hc
  have hc : (reps Go.Proofs.Try.prog tSte).c w S t [sv] := ⟨sv, rfl, hsv⟩
  obtain ⟨sa, sc, esv⟩ : ∃ ao c, sv = .slice ao t.length c := by
    obtain ⟨ao, c, e, _, h, _⟩ := hsv
    exact ⟨ao, c, e⟩
  clear hsv
  subst esv
  show Calls _ _ #[.slice sa t.length sc] w _
  obtain ⟨w2, hw2⟩ : ∃ w2, w.alloc (.cells #[.slice sa t.length sc] 22) = w2 := ⟨_, rfl⟩
  have hb2 : Below w.heap.size w w2 := by rw [← hw2]; exact (Below.refl _ w).alloc (Nat.le_refl _) _
  have hs2 : w2.heap.size = w.heap.size + 1 := by rw [← hw2]; simp
  have k2 : w2.heap[w.heap.size]? = some (.cells #[.slice sa t.length sc] 22 (0, 0)) := by
    rw [← hw2]; exact heap_alloc_new w _
  obtain ⟨ct2, _⟩ := cell_row0 k2
  have hkc : ∀ {w' : World}, Below w.heap.size w w' → (reps Go.Proofs.Try.prog tSte).c w' S t [.slice sa t.length sc] := fun hb => c_keep tSte hc ⟨hb.size, fun b hb' _ => hb.block b hb'.lt⟩ fun b _ h => h
  have hval := val_call (hkc hb2)
  go_enter Go.Proofs.Try.func43, Go.Proofs.Try.ntmps43
  refine (wpIn_wide (n := 0)).1 ?_
  show Code.wpIn (Fw none) 0 _ _ _ _ _
  refine wpIn_seq (wl_region rfl ?_)
  simp [wl, go_sem, Exit.then, hw2]
  refine wpIn_seq (wpIn_seq (wl_region rfl ?_))
  simp [wl, go_sem, ct2]
  refine hval.mono ?_
  rintro e w3 ⟨rfl, hb3⟩
  simp [wl, go_sem, Exit.then]
  refine wpIn_seq (wl_region rfl ?_)
  simp [wl, go_sem, Exit.then]
  have k3 : w3.heap[w.heap.size]? = some (.cells #[.slice sa t.length sc] 22 (0, 0)) := (hb3.block _ (by omega)).trans k2
  have hb03 : Below w.heap.size w w3 := hb2.trans (hb3.mono hb2.size)
  by_cases h0 : validT t = 0
  · refine wpIn_cond_false (by simp [Act.eval, h0]) (wpIn_skip ?_)
    simp [Exit.then]
    have ht := validT_ok.1 h0
    have h8 := ht.1
    obtain ⟨ct3, _⟩ := cell_row0 k3
    have lt3 := lt_of_row k3
    have hnl : (nums t.length).length ≤ 100 := by rw [nums_len]; omega
    have hk : Cok Go.Proofs.Try.prog ⟨[(67, cAll8), (88, cWait)], Th, 31, noX⟩ := cok_of ⟨cAll8_ok, cWait_ok, trivial⟩ (by kernel_rfl) th_ok
    refine wpIn_seq (region_draw_wp (B := { n := w3.heap.size, S := fun _ => True, j := some dJ, kv := fun t' => if t' = 1 then some (.pointer (some ⟨w.heap.size, 0, none⟩)) else none }) (w0 := w3) (Φ := fun st => st.env 6 = .ptr 6 0 [] ∧ st.env 7 = .ptr 7 0 [] ∧ st.env 1 = .ept false tSte t ∧ st.loc 6 = some (0, .box true tInts (nums t.length)) ∧ st.loc 7 = some (0, .box true .int (waitL t (nums t.length))))
      (st := mkSt ([(1, .ept false tSte t)], [])) hk mix_ok ?_ (fun o ho d hd => ?_) (by kernel_rfl) (by kernel_rfl) ?_ ?_)
    · have hdS : ∀ b, dS { n := w3.heap.size, S := fun _ => True, j := some dJ, kv := fun t' => if t' = 1 then some (.pointer (some ⟨w.heap.size, 0, none⟩)) else none } (fun _ => gh undef none) (mkLoc []) false b := fun b => ⟨⟨fun e => (by cases e), .inr trivial⟩, fun k g l hk => (by cases hk), fun h => h⟩
      refine ⟨⟨fun _ => gh undef none, ⟨fun _ => Below.refl _ _, Nat.le_refl _, fun k g l hk => (by cases hk), fun k k' g g' l l' b hk => (by cases hk), ⟨fun b h => (by rcases h with h | h <;> exact h.elim), fun k g l b hk => (by cases hk)⟩, Nat.zero_le _⟩, fun t' => ?_⟩, rfl, ⟨Marks.nil _ _, fun _ => rfl⟩, fun t' u h => ?_⟩
      rotate_left
      · simp only at h
        split at h
        · rename_i e
          subst e
          cases h
          rfl
        · cases h
      by_cases e : t' = 1
      · subst e
        refine ⟨w.heap.size, 0, [.slice sa t.length sc], rfl, hdS _, lt3, ?_, c_mono tSte (hkc hb03) fun b _ _ => hdS b⟩
        intro j u hj
        cases j with
        | zero =>
          simp at hj
          subst hj
          exact ct3
        | succ j => simp at hj
      · have : (mkSt ([(1, .ept false tSte t)], [])).env t' = .any := by
          show (match lk [(1, V.ept false tSte t)] t' with | some v => v | none => V.any) = V.any
          have : lk [(1, V.ept false tSte t)] t' = none := by
            simp only [lk]
            split
            · rename_i e2; exact absurd (Nat.eq_of_beq_eq_true e2).symm e
            · rfl
          rw [this]
        rw [this]
        trivial
    · have hd1 : d ≠ 1 := by
        rintro rfl
        revert hd
        revert o
        decide
      show (if d = 1 then _ else none) = none
      rw [if_neg hd1]
    · refine runL_of_runG _ _ _ _ ?_
      have h0 : (0 ≤ (List.length t : Int) ∧ (List.length t : Int) ≤ 4294967296) ∧ ((0 ≤ (List.length t : Int) ∧ (List.length t : Int) ≤ 4294967296) ∧ ((okT t ∧ inT t (nums (List.length t : Int).toNat) ∧ (nums (List.length t : Int).toNat).length ≤ 100) ∧ (true = true ∧ (V.ptr 6 0 [] = V.ptr 6 0 [] ∧ V.ptr 7 0 [] = V.ptr 7 0 [] ∧ V.ept false tSte t = V.ept false tSte t ∧
          some (0, L.box true tInts (nums (List.length t : Int).toNat)) = some (0, L.box true tInts (nums t.length)) ∧ some (0, L.box true .int (waitL t (nums (List.length t : Int).toNat))) = some (0, L.box true .int (waitL t (nums t.length))))))) := by
        rw [Int.toNat_natCast]
        exact ⟨⟨by omega, by omega⟩, ⟨by omega, by omega⟩, ⟨ht, nums_in t, hnl⟩, rfl, rfl, rfl, rfl, rfl, rfl⟩
      exact Eq.mpr (by kernel_rfl) h0
    · rintro st a W ⟨e6, e7, e1, l6, l7⟩ hR
      obtain ⟨G, hm, he⟩ := hR.ex
      have v1 := he 1
      have v6 := he 6
      have v7 := he 7
      rw [e1] at v1
      rw [e6] at v6
      rw [e7] at v7
      have hbW : Below w3.heap.size w3 W := hm.low rfl
      obtain ⟨pb, cur6, eb, gb, _, nb, kb, rb⟩ := hm.loc 6 _ _ l6
      obtain ⟨pl, cur7, el, gl, _, nl, kl, rl⟩ := hm.loc 7 _ _ l7
      have hne : pl ≠ pb := by
        intro e
        have := hm.inj 6 7 _ _ _ _ pb l6 l7 rfl rfl ⟨0, gb⟩ ⟨0, by rw [gl, e]⟩
        omega
      obtain ⟨tm, df⟩ := a
      have hdf : df = [] := hR.nd.2 rfl
      subst hdf
      obtain ⟨x0, x1, x2, x3, x4, x5, x6, x7, x8, x9, x10, x11, x12, x13, x14, x15, x16, x17, x18, x19, x20, x21, x22, x23, x24, x25, x26, x27, x28, x29, x30, rfl⟩ := arr31 tm hR.sz
      obtain rfl : x1 = .pointer (some ⟨w.heap.size, 0, none⟩) := hR.kp 1 _ rfl
      obtain ⟨g6, L6, q6, _, p6⟩ := v6
      rw [l6] at q6
      cases q6
      obtain ⟨b6, o6, r6, s6, _, u6⟩ := p6 rfl
      rw [gb] at r6
      cases r6
      cases s6
      obtain rfl : x6 = .pointer (some ⟨pb, 0, none⟩) := u6
      obtain ⟨g7, L7, q7, _, p7⟩ := v7
      rw [l7] at q7
      cases q7
      obtain ⟨b7, o7, r7, s7, _, u7⟩ := p7 rfl
      rw [gl] at r7
      cases r7
      cases s7
      obtain rfl : x7 = .pointer (some ⟨pl, 0, none⟩) := u7
      obtain ⟨bv, eb6, rb⟩ := rb
      obtain rfl : cur6 = #[bv] := by
        obtain ⟨l⟩ := cur6
        simp at eb6
        rw [eb6]
      obtain ⟨el7, _⟩ := rl
      obtain rfl : cur7 = #[.int .i64 (waitL t (nums t.length))] := by
        obtain ⟨l⟩ := cur7
        simp at el7
        rw [el7]
      have nb : w3.heap.size ≤ pb := nb
      have nl : w3.heap.size ≤ pl := nl
      have hz03 := hb03.size
      have hzW := hbW.size
      have hbest : (reps Go.Proofs.Try.prog tInts).c W (ND w.heap.size pl pb) (nums t.length) [bv] := c_mono tInts ⟨bv, rfl, rb⟩ fun b _ h => ⟨by have : w3.heap.size ≤ b := h.1.1 rfl; omega, fun e => h.2.1 7 0 _ l7 rfl ⟨0, by rw [gl, e]⟩, fun e => h.2.1 6 0 _ l6 rfl ⟨0, by rw [gb, e]⟩⟩
      clear v1 he hm p6 p7 hR rb l6 l7 gb gl e6 e7 e1 hk
      have kt : W.heap[w.heap.size]? = some (.cells #[.slice sa t.length sc] 22 (0, 0)) := (hbW.block _ lt3).trans k3
      obtain ⟨ctW, _⟩ := cell_row0 kt
      have hTW : (reps Go.Proofs.Try.prog tSte).c W S t [.slice sa t.length sc] := hkc (hb03.trans (hbW.mono hb03.size))
      simp only [Exit.then]
      refine wpIn_seq (wl_region rfl ?_)
      simp [wl, go_sem, ctW]
      refine (open_call hTW ht).mono ?_
      rintro e W4 ⟨oa, oc, rfl, hb4⟩
      simp [wl, go_sem, Exit.then]
      have hmf : ∀ (fn : Fn) (first cap : Array Value) (w : World), (Instr.makeFunc fn first cap).run Go.Proofs.Try.prog w = .ok (.func fn first cap) w := fun _ _ _ _ => rfl
      refine wpIn_seq (wl_region rfl ?_)
      simp [wl, go_sem, Exit.then]
      refine wpIn_seq (wl_region rfl ?_)
      simp [wl, go_sem, Exit.then, hmf]
      obtain ⟨W6, hW6⟩ : ∃ W6, (W4.alloc (.cells #[.int .i64 (openL t).length] 3)).alloc (.cells #[growV W4.heap.size w.heap.size pl pb (W4.heap.size + 1)] 71) = W6 := ⟨_, rfl⟩
      have hz4 := hb4.size
      have lpb := lt_of_row kb
      have lpl := lt_of_row kl
      have lpt := lt_of_row kt
      have h46 : Below W4.heap.size W4 W6 := by rw [← hW6]; exact ((Below.refl _ _).alloc (Nat.le_refl _) _).alloc (by simp) _
      have hW46 : Below W.heap.size W W6 := hb4.trans (h46.mono hb4.size)
      have km6 : W6.heap[W4.heap.size]? = some (.cells #[.int .i64 (openL t).length] 3 (0, 0)) := by
        rw [← hW6]
        exact (Below.heap_alloc _ _ _ (by simp)).trans (heap_alloc_new _ _)
      have kg6 : W6.heap[W4.heap.size + 1]? = some (.cells #[growV W4.heap.size w.heap.size pl pb (W4.heap.size + 1)] 71 (0, 0)) := by
        rw [← hW6]
        have := heap_alloc_new (W4.alloc (.cells #[.int .i64 (openL t).length] 3)) (.cells #[growV W4.heap.size w.heap.size pl pb (W4.heap.size + 1)] 71)
        simpa using this
      have hz6 : W6.heap.size = W4.heap.size + 2 := by rw [← hW6]; simp
      have hGW : GrowW el eb W4.heap.size w.heap.size pl pb (W4.heap.size + 1) (openL t).length (.slice sa t.length sc) bv (waitL t (nums t.length)) W6 :=
        ⟨km6, (hW46.block _ lpt).trans kt, (hW46.block _ lpl).trans kl, (hW46.block _ lpb).trans kb, kg6⟩
      obtain ⟨cg6, _⟩ := cell_row0 kg6
      rw [hW6]
      refine wpIn_seq (wl_region rfl ?_)
      simp [wl, go_sem, cg6]
      have hwb := wait_bd ht (o := nums t.length) (by rw [nums_len]; exact h8)
      have hnd : ∀ {b : Nat}, NT pl pb b ∨ True := fun {_} => .inr trivial
      have hT6 : (reps Go.Proofs.Try.prog tSte).c W6 (NT pl pb) t [.slice sa t.length sc] := by
        have hlt : ∀ b, b < w.heap.size → NT pl pb b := fun b hb => ⟨by omega, by omega⟩
        exact c_keep tSte (c_mono (S' := NT pl pb) tSte hc fun b hb _ => hlt b hb) ⟨by omega, fun b hb _ => ((hb03.trans (hbW.mono hb03.size)).trans (hW46.mono (by omega))).block b hb.lt⟩ fun b _ h => h
      have hB6 : (reps Go.Proofs.Try.prog tInts).c W6 (ND w.heap.size pl pb) (nums t.length) [bv] := c_grow2 tInts hbest (grow_below hW46)
      have hg := grow_call (n0 := w.heap.size) (st := (nums t.length, waitL t (nums t.length))) ht (by omega) (by omega) (by omega) (by omega) (by omega) (by omega) hne t.length [] 0 W6 (.slice none 0 0) bv (by omega) (rest_nil_len t) (fun r hr => by cases hr) (by simp) (Int.le_refl _) (by simp) hwb.1 (by show waitL t (nums t.length) ≤ 1000; omega) hGW hT6 nil_rep hB6
      rw [grow_best] at hg
      refine hg.mono ?_
      rintro e W7 ⟨rfl, hgr, bv', hGW7, hB7⟩
      simp [wl, go_sem, Exit.then]
      obtain ⟨cb7, _⟩ := cell_row0 hGW7.b
      obtain ⟨cl7, _⟩ := cell_row0 hGW7.l
      have hw7 : Below w.heap.size w W7 := by
        have h6 : Below w.heap.size w W6 := (hb03.trans (hbW.mono hb03.size)).trans (hW46.mono (by omega))
        exact h6.trans ⟨hgr.os, hgr.tape, hgr.output, hgr.size, fun b hb => hgr.block b (by omega) fun e => by rcases e with e | e <;> omega⟩
      have hin2 : inI (bestT t).2 := by
        have h1 := bestT_least (t := t) (o := nums t.length) (.refl _)
        have h2 := best_pos t t.length []
        have h3 : 0 ≤ (bestT t).2 := h2
        unfold inI; omega
      have hS7 : ∀ w', Below W7.heap.size W7 w' → w'.cell? ⟨pb, 0, none⟩ = some bv' ∧ w'.cell? ⟨pl, 0, none⟩ = some (.int .i64 (bestT t).2) ∧ Below W7.heap.size W7 w' := fun w' hb => ⟨cell_below hb (lt_of_row hGW7.b) cb7, cell_below hb (lt_of_row hGW7.l) cl7, hb⟩
      have hB8 : (reps Go.Proofs.Try.prog tInts).c W7.drew (fun b => w.heap.size ≤ b) (bestT t).1 [bv'] := c_keep tInts (c_mono (S' := fun b => w.heap.size ≤ b) tInts hB7 fun b _ h => h.1) ⟨Nat.le_refl _, fun _ _ _ => rfl⟩ fun _ _ h => h
      have hw8 : Below w.heap.size w W7.drew := hw7.trans (((Below.refl _ _).drew).mono hw7.size)
      have e1 : (if validT t = 0 then (bestT t).1 else []) = (bestT t).1 := if_pos h0
      have e2 : (if validT t = 0 then (bestT t).2 else 0) = (bestT t).2 := if_pos h0
      have hpost := best_post (P := Go.Proofs.Try.prog) hw8 e1 e2 hin2 hB8
      obtain ⟨ba, bc, ebv⟩ : ∃ ao c, bv' = .slice ao (bestT t).1.length c := by
        obtain ⟨u, e, ao, c, e2, _⟩ := hB7
        cases e
        exact ⟨ao, c, e2⟩
      subst ebv
      rw [h0] at hpost
      refine wpIn_seq ((wpIn_wide (n := 0)).2 ?_)
      rw [h0]
      clear h0
      go_region_held3 (fun w' => w'.cell? ⟨pb, 0, none⟩ = some (.slice ba (bestT t).1.length bc) ∧ w'.cell? ⟨pl, 0, none⟩ = some (.int .i64 (bestT t).2) ∧ Below W7.heap.size W7 w') ((refine hS7 _ ?_; first | exact (Below.refl _ _).drew)) (fail)
      simp only [Exit.then]
      refine wpIn_ret ?_
      refine ⟨rfl, .tuple #[.slice ba (bestT t).1.length bc, .int .i64 (bestT t).2, .int .i64 0], ?_, hpost⟩
      simp [results, Go.Proofs.Try.results43, go_sem]
  · refine wpIn_cond_true (by simp [Act.eval, h0]) ?_
    refine wpIn_seq (wl_region rfl ?_)
    simp [wl, go_sem, Exit.then]
    refine wpIn_ret ?_
    simp only [Exit.then]
    have e1 : (if validT t = 0 then (bestT t).1 else []) = [] := if_neg h0
    have e2 : (if validT t = 0 then (bestT t).2 else 0) = 0 := if_neg h0
    refine ⟨rfl, .tuple #[.slice none 0 0, .int .i64 0, .int .i64 (validT t)], ?_, best_post (P := Go.Proofs.Try.prog) hb03 e1 e2 (by unfold inI; omega) nil_rep⟩
    simp [results, Go.Proofs.Try.results43, go_sem]
end Go.Tk
/- SuiteBests. -/
set_option linter.unusedSimpArgs false
set_option linter.unusedVariables false
set_option linter.unnecessarySimpa false
namespace Go.Tk
open Go Go.RowKit
theorem sortL_nums {l : List Int} {n : Nat} (h : l.Perm (nums n)) : sortL l = nums n := by
  have h1 : (sortL l).Pairwise fun x y => decide (x ≤ y) = true := List.pairwise_mergeSort (fun a b c h1 h2 => by simp at *; omega) (fun a b => by simp; omega) _
  have h2 : (nums n).Pairwise fun x y => decide (x ≤ y) = true := (nums_sorted n).imp fun h => by simp; omega
  refine List.Perm.eq_of_pairwise (fun a b _ _ p q => ?_) h1 h2 ((sortL_perm l).trans h)
  simp at p q; omega
theorem ordT_perm {t : Ste} {l : List Int} (h0 : validT t = 0) (h : l.Perm (nums t.length)) : ordT t l = 0 := by
  unfold ordT
  rw [if_pos h0, sortL_nums h]
  simp [argErr]
abbrev cBestsL : Con := { A := (.cons (.sl (.sl .int)) .nil), R := (.cons .bool .nil), pre := fun x => True, F := fun x => (true, ()) }
def cBestsL_0  (t : (List (List Int))) (y0 : Bool) : Prop :=
  True ∧ (if (longT t) = true then (True ∧ (true = y0 ∧ True)) else (True ∧ (True ∧ (True ∧ (if (!(decide (((if validT t = 0 then (bestT t).1 else [])) = ((if validT t = 0 then (bestT t).1 else []))))) = true then (true = true ∧ (true = true ∧ (false = y0 ∧ True))) else (True ∧ (if (bif false then true else (((if validT t = 0 then (bestT t).2 else 0)) != ((if validT t = 0 then (bestT t).2 else 0)))) = true then (true = true ∧ (false = y0 ∧ True)) else (True ∧ (if (bif false then true else ((validT t) != (validT t))) = true then (false = y0 ∧ True) else (((if validT t = 0 then (bestT t).1 else [])).length ≤ 1000000 ∧ (if ((validT t) != (0 : Int)) = true then (true = true ∧ (True ∧ (True ∧ ((bif true then true else false) = y0 ∧ True)))) else (if ((ordT t ((if validT t = 0 then (bestT t).1 else []))) == (0 : Int)) = true then (True ∧ (True ∧ (if (bif false then true else (bif true then (((if ordT t ((if validT t = 0 then (bestT t).1 else [])) = 0 then waitL t ((if validT t = 0 then (bestT t).1 else [])) else 0)) == ((if validT t = 0 then (bestT t).2 else 0))) else false)) = true then (True ∧ (True ∧ ((bif true then true else false) = y0 ∧ True))) else (false = false ∧ (false = y0 ∧ True))))) else (false = false ∧ (True ∧ (if (bif false then true else false) = true then (True ∧ (True ∧ ((bif true then true else false) = y0 ∧ True))) else (false = false ∧ (false = y0 ∧ True)))))))))))))))))
theorem cBestsL_law (h : ∀ (t : (List (List Int))), cBestsL.A.wf (t, ()) → cBestsL_0  t true) : ConOK Go.Proofs.Try.prog 11 cBestsL := by
  refine lawL (Γ := [(43, cBest), (44, cBestR), (17, cLong8), (21, cSameI8), (18, cSane8), (45, cWaitS)]) (Θ := Th) (n := 60) [] ⟨cBest_ok, cBestR_ok, cLong8_ok, cSameI8_ok, cSane8_ok, cWaitS_ok, trivial⟩ (by kernel_rfl) th_ok mix_ok Go.Proofs.Try.func11 (by kernel_rfl) ?_
  intro x hw hp Λ hC
  have h0 := h x.1 hw  
  exact Eq.mpr (by kernel_rfl) h0
theorem cBestsL_ok : ConOK Go.Proofs.Try.prog 11 cBestsL := by
  refine cBestsL_law ?_
  intro t hw
  unfold cBestsL_0
  refine ⟨trivial, ?_⟩
  cases hL : longT t
  · rw [if_neg (by simp)]
    by_cases h0 : validT t = 0
    · have h8 := (validT_ok.1 h0).1
      have hl := (bestT_perm t).length_eq
      rw [nums_len] at hl
      have h1 := ordT_perm h0 (bestT_perm t)
      have h2 := bestT_wait t
      simp [h0, h1, ← h2]
      omega
    · simp [h0]
  · rw [if_pos rfl]
    exact ⟨trivial, rfl, trivial⟩
end Go.Tk
/- Plain facts of layer 8: shares of waits, and rows in another order. No program in sight. -/
set_option linter.unusedSimpArgs false
set_option linter.unusedVariables false
set_option linter.unnecessarySimpa false
namespace Go.Tk
open Go Go.RowKit

theorem perm_of_sub {α : Type} [BEq α] [LawfulBEq α] : ∀ (l m : List α), l.Nodup → (∀ x ∈ l, x ∈ m) → m.length = l.length → m.Perm l
  | [], m, _, _, h => by rw [List.length_eq_zero_iff.1 h]
  | a :: l, m, hn, hs, h => by
    obtain ⟨h1, h2⟩ := List.nodup_cons.1 hn
    have ha := hs a (by simp)
    refine (List.perm_cons_erase ha).trans (List.Perm.cons a (perm_of_sub l (m.erase a) h2 (fun x hx => ?_) ?_))
    · have hne : x ≠ a := fun e => h1 (e ▸ hx)
      exact (List.mem_erase_of_ne hne).2 (hs x (by simp [hx]))
    · rw [List.length_erase_of_mem ha, h]; rfl

theorem tmod_nat (a b : Nat) : Int.tmod (a : Int) (b : Int) = ((a % b : Nat) : Int) := rfl
theorem tdiv_nat (a b : Nat) : Int.tdiv (a : Int) (b : Int) = ((a / b : Nat) : Int) := rfl

def manyT (t : Ste) : Nat := t.length * (openL t).length
def shareT (t : Ste) (o : List Int) : Int × Int := (((waitL t o).toNat / Nat.gcd (waitL t o).toNat (manyT t) : Nat), (manyT t / Nat.gcd (waitL t o).toNat (manyT t) : Nat))

theorem wait_bd2 {t : Ste} (ht : okT t) {o : List Int} (ho : o.length ≤ 8) : 0 ≤ waitL t o ∧ waitL t o ≤ 90 := by
  have h := sum_bound (l := openL t) (f := waitG t o) (a := 0) (b := 9) fun g _ => by
    have := idxF_bound (fun r => hits t r g.toNat) o
    unfold waitG
    omega
  have h2 := openL_len t
  have h3 := ht.2.1
  unfold waitL
  omega
theorem idx_hit {α : Type} {p : α → Bool} {l : List α} (h : l.any p = true) : 0 ≤ idxF p l ∧ idxF p l < l.length := by
  unfold idxF
  cases hf : l.findIdx? p with
  | none =>
    rw [List.findIdx?_eq_none_iff] at hf
    obtain ⟨x, hx, e⟩ := List.any_eq_true.1 h
    rw [hf x hx] at e; cases e
  | some i =>
    obtain ⟨h1, _⟩ := List.findIdx?_eq_some_iff_findIdx_eq.1 hf
    show 0 ≤ (i : Int) ∧ (i : Int) < _
    omega
theorem wait_many {t : Ste} {o : List Int} (h : o.Perm (nums t.length)) : ((openL t).length : Int) ≤ waitL t o ∧ waitL t o ≤ (manyT t : Int) := by
  have hl := h.length_eq
  rw [nums_len] at hl
  have h1 := sum_bound (l := openL t) (f := waitG t o) (a := 1) (b := t.length) fun g hg => by
    have : o.any (fun r => hits t r g.toNat) = true := by rw [any_perm h]; exact open_hit hg
    have := idx_hit this
    unfold waitG
    omega
  unfold manyT waitL
  rw [Int.natCast_mul]
  omega
theorem share_law {t : Ste} {o : List Int} (h : o.Perm (nums t.length)) (hm : manyT t ≠ 0) : 1 ≤ (shareT t o).2 ∧ 1 ≤ (shareT t o).1 ∧ (shareT t o).1 ≤ (shareT t o).2 := by
  have h1 := wait_many h
  have h2 : 0 < (openL t).length := by
    apply Nat.pos_of_ne_zero
    intro e
    unfold manyT at hm
    rw [e] at hm
    simp at hm
  have hg : 0 < Nat.gcd (waitL t o).toNat (manyT t) := Nat.gcd_pos_of_pos_right _ (by omega)
  have hw : 0 < (waitL t o).toNat := by omega
  unfold shareT
  have h3 : 1 ≤ manyT t / Nat.gcd (waitL t o).toNat (manyT t) := Nat.div_pos (Nat.le_of_dvd (by omega) (Nat.gcd_dvd_right _ _)) hg
  have h4 : 1 ≤ (waitL t o).toNat / Nat.gcd (waitL t o).toNat (manyT t) := Nat.div_pos (Nat.le_of_dvd hw (Nat.gcd_dvd_left _ _)) hg
  have h5 : (waitL t o).toNat / Nat.gcd (waitL t o).toNat (manyT t) ≤ manyT t / Nat.gcd (waitL t o).toNat (manyT t) := Nat.div_le_div_right (by omega)
  simp only
  omega

/-! ### The document's loop -/
def waitK (t : Ste) (o : List Int) (k : Nat) : Int := ((metK t (nums t.length) k).map (waitG t o)).sum
theorem waitK_all (t : Ste) (o : List Int) : waitK t o (goals8 t) = waitL t o := rfl
theorem waitK_succ {t : Ste} {o : List Int} (ho : inT t o) (k : Nat) : waitK t o (k + 1) = waitK t o k + waitG t o k := by
  unfold waitK
  rw [metK_succ]
  split
  · rw [List.map_append, List.sum_append]
    simp
  · rename_i h
    have : o.any (fun r => hits t r k) = false := by
      rw [List.any_eq_false]
      intro r hr e
      apply h
      exact List.any_eq_true.2 ⟨r, nums_mem.2 (ho r hr), e⟩
    unfold waitG
    rw [Int.toNat_natCast, idxF_none this]
    omega
theorem waitK_bd {t : Ste} {o : List Int} (k : Nat) (hk : k ≤ 10) (ho : o.length ≤ 100) : 0 ≤ waitK t o k ∧ waitK t o k ≤ 1010 := by
  have h := sum_bound (l := metK t (nums t.length) k) (f := waitG t o) (a := 0) (b := 101) fun g _ => by
    have := idxF_bound (fun r => hits t r g.toNat) o
    unfold waitG
    omega
  have h2 := metK_len t (nums t.length) k
  unfold waitK
  omega
end Go.Tk
/- SuiteGreedies. -/
set_option linter.unusedSimpArgs false
set_option linter.unusedVariables false
set_option linter.unnecessarySimpa false
namespace Go.Tk
open Go Go.RowKit
abbrev cGreedy : Con := { A := (.cons (.sl (.sl .int)) .nil), R := (.cons (.sl .int) (.cons .int .nil)), pre := fun x => True, F := fun x => ((if validT x.1 = 0 then greT x.1 else []), validT x.1, ()) }
theorem cGreedy_ok : ConOK Go.Proofs.Try.prog 55 cGreedy := by
  refine ConOK.f ?_ rfl
  rintro w S ⟨t, ⟨⟩⟩ vs hv _
  change Ste at t
  obtain ⟨tv, vs1, b1, b2, rfl, _, ⟨_, xc, ex, hpr⟩, rfl, _⟩ := hv
  have hpr0 := hpr
  obtain ⟨tv', exc, hps⟩ := hpr
  subst exc
  obtain rfl : tv = tv' := ex
  have hpr : (reps Go.Proofs.Try.prog tSte).c w S t [tv] := hpr0
  refine (greedy_call hpr).mono ?_
  rintro e w' ⟨v, rfl, h1, h2, hb⟩
  have h1' : (reps Go.Proofs.Try.prog tInts).c w' (fun b => (w.heap.size ≤ b ∨ cGreedy.al = true ∧ S b) ∧ b ∉ ([] : List Nat)) (if validT t = 0 then greT t else []) [v] := c_mono tInts h1 fun b _ h => ⟨.inl h, by simp⟩
  exact ⟨[v, .int .i64 (validT t)], [], rfl, ⟨v, [.int .i64 (validT t)], [], [], rfl, rfl, ⟨rfl, [v], rfl, h1'⟩, .int .i64 (validT t), [], [], [], rfl, rfl, ⟨rfl, [_], rfl, rfl, h2⟩, rfl, rfl⟩, by simp, by simp, hb⟩
abbrev cGreediesL : Con := { A := (.cons (.sl (.sl .int)) .nil), R := (.cons .bool .nil), pre := fun x => True, F := fun x => (true, ()) }
def cGreediesL_0  (t : (List (List Int))) (y0 : Bool) : Prop :=
  True ∧ (if (longT t) = true then (True ∧ (true = y0 ∧ True)) else (True ∧ (True ∧ (True ∧ (if (!(decide (((if validT t = 0 then greT t else [])) = ((if validT t = 0 then greT t else []))))) = true then (true = true ∧ (false = y0 ∧ True)) else (True ∧ (if (bif false then true else ((validT t) != (validT t))) = true then (false = y0 ∧ True) else (if ((validT t) != (0 : Int)) = true then (True ∧ (true = y0 ∧ True)) else (((if validT t = 0 then greT t else [])).length ≤ 1000000 ∧ (True ∧ (if ((ordT t ((if validT t = 0 then greT t else []))) == (0 : Int)) = true then (True ∧ (if (bif true then ((validT t) == (0 : Int)) else false) = true then (True ∧ (if (bif true then (decide (((if ordT t ((if validT t = 0 then greT t else [])) = 0 then waitL t ((if validT t = 0 then greT t else [])) else 0)) ≥ ((if validT t = 0 then (bestT t).2 else 0)))) else false) = true then (inI ((4 : Int) * ((if validT t = 0 then (bestT t).2 else 0))) ∧ (True ∧ (if (bif true then (decide (((if ordT t ((if validT t = 0 then greT t else [])) = 0 then waitL t ((if validT t = 0 then greT t else [])) else 0)) ≤ ((4 : Int) * ((if validT t = 0 then (bestT t).2 else 0))))) else false) = true then (True ∧ (True ∧ ((bif true then true else false) = y0 ∧ True))) else (false = false ∧ (false = y0 ∧ True))))) else (false = false ∧ (false = false ∧ (false = y0 ∧ True))))) else (false = false ∧ (false = false ∧ (false = false ∧ (false = y0 ∧ True)))))) else (false = false ∧ (false = false ∧ (false = false ∧ (false = false ∧ (false = y0 ∧ True))))))))))))))))
theorem cGreediesL_law (h : ∀ (t : (List (List Int))), cGreediesL.A.wf (t, ()) → cGreediesL_0  t true) : ConOK Go.Proofs.Try.prog 16 cGreediesL := by
  refine lawL (Γ := [(43, cBest), (55, cGreedy), (56, cGreedyR), (17, cLong8), (21, cSameI8), (18, cSane8), (45, cWaitS)]) (Θ := Th) (n := 69) [] ⟨cBest_ok, cGreedy_ok, cGreedyR_ok, cLong8_ok, cSameI8_ok, cSane8_ok, cWaitS_ok, trivial⟩ (by kernel_rfl) th_ok mix_ok Go.Proofs.Try.func16 (by kernel_rfl) ?_
  intro x hw hp Λ hC
  have h0 := h x.1 hw  
  exact Eq.mpr (by kernel_rfl) h0
theorem cGreediesL_ok : ConOK Go.Proofs.Try.prog 16 cGreediesL := by
  refine cGreediesL_law ?_
  intro t hw
  unfold cGreediesL_0
  refine ⟨trivial, ?_⟩
  cases hL : longT t
  · rw [if_neg (by simp)]
    refine ⟨trivial, trivial, trivial, ?_⟩
    by_cases h0 : validT t = 0
    · have h8 := (validT_ok.1 h0).1
      have hl := (greT_perm t).length_eq
      rw [nums_len] at hl
      have hp1 := ordT_perm h0 (greT_perm t)
      have h2 := bestT_least (greT_perm t)
      have h4 := greT_four t
      have h5 := best_pos t t.length []
      have h5 : 0 ≤ (bestT t).2 := h5
      have h6 : (bestT t).2 ≤ 1000 := by
        rw [bestT_wait]
        have hb := (bestT_perm t).length_eq
        rw [nums_len] at hb
        have := (wait_bd (validT_ok.1 h0) (o := (bestT t).1) (by omega)).2
        omega
      have hin : inI (4 * (bestT t).2) := by unfold inI; omega
      have hle : (greT t).length ≤ 1000000 := by omega
      simp [h0, hp1, h2, h4, hin, hle]
    · simp [h0]
  · rw [if_pos rfl]
    exact ⟨trivial, rfl, trivial⟩
end Go.Tk
