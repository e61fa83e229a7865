/- Plain facts: repairs done in another order (layer 7). No program in sight. -/
import Derived.Test.YthjkkjnnkkekeaaC7w
set_option linter.unusedSimpArgs false
set_option linter.unusedVariables false
set_option linter.unnecessarySimpa false
namespace Go.Tk
open Go Go.RowKit

/-! ### Lists with all numbers -/
theorem perm_of_sub {α : Type} [BEq α] [LawfulBEq α] : ∀ {l k : List α}, l.Nodup → (∀ x ∈ l, x ∈ k) → k.length ≤ l.length → l.Perm k
  | [], k, _, _, hl => by
    have : k = [] := List.length_eq_zero_iff.1 (by simpa using hl)
    rw [this]
  | a :: l, k, hn, hs, hl => by
    have ha : a ∈ k := hs a (List.mem_cons_self ..)
    have hp := List.perm_cons_erase ha
    rw [List.nodup_cons] at hn
    refine List.Perm.trans (List.Perm.cons a (perm_of_sub hn.2 (fun x hx => ?_) ?_)) hp.symm
    · have h1 := (hp.mem_iff (a := x)).1 (hs x (List.mem_cons_of_mem _ hx))
      rcases List.mem_cons.1 h1 with rfl | h1
      · exact absurd hx hn.1
      · exact h1
    · have := hp.length_eq
      simp only [List.length_cons] at this hl
      omega
theorem upI_nodup : ∀ n, (upI n).Nodup
  | 0 => List.nodup_nil
  | n + 1 => by
    unfold upI
    rw [List.nodup_append]
    refine ⟨upI_nodup n, by simp, ?_⟩
    intro a ha b hb
    rw [upI_mem] at ha
    simp at hb
    omega
def permB (o : List Int) (n : Nat) : Bool := (upI n).all fun k => decide (k ∈ o)
structure Perm7 (o : List Int) (n : Nat) : Prop where
  nodup : o.Nodup
  mem : ∀ x, x ∈ o ↔ 0 ≤ x ∧ x < n
  len : o.length = n
theorem perm7 {o : List Int} {n : Nat} (hl : o.length = n) (h : permB o n = true) : Perm7 o n := by
  unfold permB at h
  rw [List.all_eq_true] at h
  have p : (upI n).Perm o := perm_of_sub (upI_nodup n) (fun x hx => by simpa using h x hx) (by rw [upI_len, hl]; exact Nat.le_refl _)
  exact ⟨p.nodup_iff.1 (upI_nodup n), fun x => by rw [← p.mem_iff, upI_mem], hl⟩
theorem permB_of {o : List Int} {n : Nat} (h : ∀ k : Nat, k < n → (k : Int) ∈ o) : permB o n = true := by
  unfold permB
  rw [List.all_eq_true]
  intro x hx
  rw [upI_mem] at hx
  obtain ⟨k, rfl⟩ := Int.eq_ofNat_of_zero_le hx.1
  exact decide_eq_true (h k (by omega))

/-! ### Orders that keep the needs -/
def keepsB (h : List (List Edt)) : List Int → Bool
  | [] => true
  | n :: l => !(l.any fun k => decide (k < n) && touchB h k n) && keepsB h l
def keepsR (h : List (List Edt)) : List Int → Bool
  | [] => true
  | n :: l => !(l.any fun k => need h n.toNat k.toNat) && keepsR h l
theorem keepsB_iff {h : List (List Edt)} : ∀ {o : List Int}, keepsB h o = true ↔ o.Pairwise fun n k => ¬ (k < n ∧ touchB h k n = true)
  | [] => by simp [keepsB]
  | n :: l => by
    unfold keepsB
    rw [Bool.and_eq_true, keepsB_iff (o := l), List.pairwise_cons]
    simp
theorem keepsR_iff {h : List (List Edt)} : ∀ {o : List Int}, keepsR h o = true ↔ o.Pairwise fun n k => ¬ need h n.toNat k.toNat = true
  | [] => by simp [keepsR]
  | n :: l => by
    unfold keepsR
    rw [Bool.and_eq_true, keepsR_iff (o := l), List.pairwise_cons]
    simp
theorem pair_at {α : Type} {R : α → α → Prop} {l : List α} (h : l.Pairwise R) {i j : Nat} {a b : α} (hij : i < j) (ha : l[i]? = some a) (hb : l[j]? = some b) : R a b := by
  obtain ⟨h1, rfl⟩ := List.getElem?_eq_some_iff.1 ha
  obtain ⟨h2, rfl⟩ := List.getElem?_eq_some_iff.1 hb
  exact List.pairwise_iff_getElem.1 h i j h1 h2 hij
theorem keeps_same {h : List (List Edt)} {o : List Int} (p : Perm7 o h.length) : keepsB h o = keepsR h o := by
  rw [Bool.eq_iff_iff, keepsB_iff, keepsR_iff]
  constructor
  · intro hk
    have key : ∀ n : Nat, ∀ (m i j : Nat), i < j → o[i]? = some (n : Int) → o[j]? = some (m : Int) → need h n m = true → False := by
      intro n
      induction n using Nat.strongRecOn with
      | ind n ih =>
        intro m i j hij hi hj hn
        have hnl : n < h.length := by
          have := (p.mem n).1 (List.mem_of_getElem? hi); omega
        rcases need_iff.1 hn with ⟨h0, h1 | ⟨k, h1, h2, h3⟩⟩
        · exact pair_at hk hij hi hj ⟨by omega, h1⟩
        · have hkm : (k : Int) ∈ o := (p.mem k).2 ⟨by omega, by omega⟩
          obtain ⟨q, hq⟩ := List.mem_iff_getElem?.1 hkm
          by_cases c : q < i
          · exact ih k h1 m q j (by omega) hq hj h3
          · by_cases c2 : q = i
            · subst c2
              rw [hi] at hq
              have : (n : Int) = k := Option.some.inj hq
              omega
            · exact pair_at hk (show i < q by omega) hi hq ⟨by omega, h2⟩
    rw [List.pairwise_iff_getElem]
    intro i j hi hj hij hn
    have h1 := (p.mem o[i]).1 (List.getElem_mem hi)
    have h2 := (p.mem o[j]).1 (List.getElem_mem hj)
    exact key o[i].toNat o[j].toNat i j hij (by rw [List.getElem?_eq_getElem hi]; congr 1; omega) (by rw [List.getElem?_eq_getElem hj]; congr 1; omega) hn
  · intro hk
    rw [List.pairwise_iff_getElem] at hk ⊢
    intro i j hi hj hij ⟨h1, h2⟩
    have h3 := (p.mem o[i]).1 (List.getElem_mem hi)
    have h4 := (p.mem o[j]).1 (List.getElem_mem hj)
    refine hk i j hi hj hij (need_dir (by omega) ?_)
    unfold tch
    rw [show ((o[j].toNat : Nat) : Int) = o[j] by omega, show ((o[i].toNat : Nat) : Int) = o[i] by omega]
    exact h2

/-! ### The program behind an order -/
theorem touL_tch {h : List (List Edt)} {a b : Nat} {L : Int} (h1 : touL (h.getD a []) L = true) (h2 : touL (h.getD b []) L = true) : touchB h a b = true := by
  unfold touL at h1 h2
  rw [List.any_eq_true] at h1 h2
  obtain ⟨x, x1, x2⟩ := h1
  obtain ⟨y, y1, y2⟩ := h2
  unfold touchB
  rw [List.any_eq_true]
  refine ⟨x, by rw [Int.toNat_natCast]; exact x1, ?_⟩
  rw [List.any_eq_true]
  refine ⟨y, by rw [Int.toNat_natCast]; exact y1, ?_⟩
  rw [beq_iff_eq] at x2 y2 ⊢
  omega
def ordH (h : List (List Edt)) (o : List Int) : List (List Edt) := o.map fun k => h.getD k.toNat []
def foldW (h : List (List Edt)) (L : Int) (o : List Int) (w : Lin) : Lin := o.foldl (fun w n => wantX (h.getD n.toNat []) L w) w
theorem foldW_none {h : List (List Edt)} {L : Int} : ∀ {o : List Int} {w : Lin}, (∀ n ∈ o, touL (h.getD n.toNat []) L = false) → foldW h L o w = w
  | [], _, _ => rfl
  | n :: o, w, e => by
    show foldW h L o (wantX (h.getD n.toNat []) L w) = w
    rw [foldW_none fun k hk => e k (List.mem_cons_of_mem _ hk), wantX_none (e n (List.mem_cons_self ..))]
theorem foldW_some {h : List (List Edt)} {L : Int} {m : Nat} (hm : touL (h.getD m []) L = true) : ∀ {o : List Int} {w : Lin}, (m : Int) ∈ o → o.Nodup → (∀ n ∈ o, 0 ≤ n) → (∀ n ∈ o, touL (h.getD n.toNat []) L = true → n ≤ m) → keepsB h o = true → foldW h L o w = wantX (h.getD m []) L w
  | [], _, hi, _, _, _, _ => by simp at hi
  | n :: o, w, hi, hn, h0, hx, hk => by
    rw [keepsB_iff, List.pairwise_cons] at hk
    rw [List.nodup_cons] at hn
    show foldW h L o (wantX (h.getD n.toNat []) L w) = _
    by_cases c : (m : Int) ∈ o
    · rw [foldW_some hm c hn.2 (fun k hk => h0 k (List.mem_cons_of_mem _ hk)) (fun k hk => hx k (List.mem_cons_of_mem _ hk)) (keepsB_iff.2 hk.2)]
      exact wantX_some hm
    · have e : (m : Int) = n := (List.mem_cons.1 hi).resolve_right c
      subst e
      rw [Int.toNat_natCast]
      apply foldW_none
      intro k hko
      cases t : touL (h.getD k.toNat []) L
      · rfl
      · exfalso
        have k1 := hx k (List.mem_cons_of_mem _ hko) t
        have k2 := h0 k (List.mem_cons_of_mem _ hko)
        refine hk.1 k hko ⟨?_, ?_⟩
        · have : k ≠ (m : Int) := fun q => c (q ▸ hko)
          omega
        · have := touL_tch t hm
          rw [show ((k.toNat : Nat) : Int) = k by omega] at this
          exact this
theorem lastT_max {h : List (List Edt)} {L : Int} : ∀ {n}, (match lastT h L n with | some m => ∀ k, k < n → touL (h.getD k []) L = true → k ≤ m | none => ∀ k, k < n → touL (h.getD k []) L = false)
  | 0 => by simp [lastT]
  | n + 1 => by
    have ih := lastT_max (h := h) (L := L) (n := n)
    unfold lastT
    by_cases c : touL (h.getD n []) L = true
    · rw [if_pos c]
      intro k hk _; omega
    · rw [if_neg c]
      cases e : lastT h L n with
      | none =>
        rw [e] at ih
        intro k hk
        by_cases q : k = n
        · subst q; simpa using c
        · exact ih k (by omega)
      | some m =>
        rw [e] at ih
        intro k hk ht
        by_cases q : k = n
        · subst q; exact absurd ht c
        · exact ih k (by omega) ht
theorem play_fold {p : List Lin} {h : List (List Edt)} {L : Nat} (ho : okH p.length h) (hL : L < p.length) : ∀ (o : List Int), (∀ n ∈ o, 0 ≤ n ∧ n < h.length) → ∀ q : List Lin, q.length = p.length → (playH q (ordH h o)).getD L tL.dflt = foldW h L o (q.getD L tL.dflt)
  | [], _, q, _ => rfl
  | n :: o, hn, q, hq => by
    show (playH (playX q (h.getD n.toNat [])) (ordH h o)).getD L tL.dflt = foldW h L o (wantX (h.getD n.toNat []) L (q.getD L tL.dflt))
    have h1 := hn n (List.mem_cons_self ..)
    rw [play_fold ho hL o (fun k hk => hn k (List.mem_cons_of_mem _ hk)) _ (by rw [playX_len, hq]), playX_get (fun e he => (ho _ (mem_getD (by omega)) e he).1) (by omega)]
theorem play_order {p : List Lin} {h : List (List Edt)} {o : List Int} (ho : okH p.length h) (pm : Perm7 o h.length) (hk : keepsB h o = true) : playH p (ordH h o) = playH p h := by
  refine ext_getD tL.dflt (by rw [playH_len, playH_len]) fun L hL => ?_
  rw [playH_len] at hL
  rw [play_fold ho hL o (fun n hn => (pm.mem n).1 hn) p rfl]
  have hg := playH_get ho hL h.length (Nat.le_refl _)
  rw [List.take_length] at hg
  rw [hg]
  have mx := lastT_max (h := h) (L := (L : Int)) (n := h.length)
  cases e : lastT h (L : Int) h.length with
  | none =>
    rw [e] at mx
    exact foldW_none fun n hn => mx _ (by have := (pm.mem n).1 hn; omega)
  | some m =>
    rw [e] at mx
    have hm := lastT_lt e
    exact foldW_some hm.2 ((pm.mem m).2 ⟨by omega, by omega⟩) pm.nodup (fun n hn => ((pm.mem n).1 hn).1) (fun n hn ht => by have h1 := (pm.mem n).1 hn; have := mx n.toNat (by omega) ht; omega) hk
def ordE (p : List Lin) (h : List (List Edt)) (o : List Int) : Int := if err7 p h = 0 then (if o.length = h.length ∧ permB o h.length = true then (if keepsB h o = true then 0 else 7) else 1) else err7 p h
def ordV (p : List Lin) (h : List (List Edt)) (o : List Int) : List Lin := if ordE p h o = 0 then playH p (ordH h o) else []
theorem ordE_iff {p : List Lin} {h : List (List Edt)} {o : List Int} : ordE p h o = 0 ↔ err7 p h = 0 ∧ Perm7 o h.length ∧ keepsB h o = true := by
  unfold ordE
  by_cases e : err7 p h = 0
  · rw [if_pos e]
    by_cases c : o.length = h.length ∧ permB o h.length = true
    · rw [if_pos c]
      by_cases k : keepsB h o = true
      · rw [if_pos k]; exact ⟨fun _ => ⟨e, perm7 c.1 c.2, k⟩, fun _ => rfl⟩
      · rw [if_neg k]; exact ⟨fun q => absurd q (by decide), fun q => absurd q.2.2 k⟩
    · rw [if_neg c]
      refine ⟨fun q => absurd q (by decide), fun q => absurd ⟨q.2.1.len, permB_of fun k hk => (q.2.1.mem k).2 ⟨by omega, by omega⟩⟩ c⟩
  · rw [if_neg e]; exact ⟨fun q => absurd q e, fun q => absurd q.1 e⟩
end Go.Tk
