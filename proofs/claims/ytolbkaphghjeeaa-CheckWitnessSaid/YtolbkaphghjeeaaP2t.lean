/- Plain facts: tests (layer 2). No program in sight. -/
import Derived.Test.YtolbkaphghjeeaaP2
set_option linter.unusedSimpArgs false
set_option linter.unusedVariables false
namespace Go.Tk
open Go Go.RowKit

def isTst (t : Tst) : Bool := validS t.1 && isReg t.2.1 && isVal t.2.2.1
def validT (l : List Tst) : Int := if l.length > 8 then 3 else argErr (l.all isTst)
def firstErr : List (List Lin) → Int
  | [] => 0
  | p :: ps => if validP p = 0 then firstErr ps else validP p
def errT (ps : List (List Lin)) (l : List Tst) : Int := if firstErr ps = 0 then validT l else firstErr ps
def endT (p : List Lin) (t : Tst) : Int := Rg (runS p t.1) t.2.1
def passT (p : List Lin) (t : Tst) : Bool := endT p t == t.2.2.1
/-- The places of what is so. -/
def whereTo (f : Tst → Bool) (l : List Tst) : Nat → List Int
  | 0 => []
  | n + 1 => whereTo f l n ++ if f (l.getD n tTs.dflt) = true then [(n : Int)] else []
def whereL (f : Tst → Bool) (l : List Tst) : List Int := whereTo f l l.length

theorem whereTo_len (f : Tst → Bool) (l : List Tst) : ∀ n, (whereTo f l n).length ≤ n
  | 0 => Nat.le_refl _
  | n + 1 => by
    unfold whereTo
    rw [List.length_append]
    have := whereTo_len f l n
    split <;> simp <;> omega
theorem whereTo_both (f : Tst → Bool) (l : List Tst) : ∀ n, (whereTo f l n).length + (whereTo (fun t => !f t) l n).length = n
  | 0 => rfl
  | n + 1 => by
    unfold whereTo
    rw [List.length_append, List.length_append]
    have := whereTo_both f l n
    cases f (l.getD n tTs.dflt) <;> simp <;> omega
theorem where_both (f : Tst → Bool) (l : List Tst) : (whereL f l).length + (whereL (fun t => !f t) l).length = l.length := whereTo_both f l l.length
theorem whereL_len (f : Tst → Bool) (l : List Tst) : (whereL f l).length ≤ l.length := whereTo_len f l l.length
theorem whereTo_congr {f g : Tst → Bool} (l : List Tst) : ∀ n, n ≤ l.length → (∀ t ∈ l, f t = g t) → whereTo f l n = whereTo g l n
  | 0, _, _ => rfl
  | n + 1, h, e => by
    unfold whereTo
    rw [whereTo_congr l n (by omega) e, e _ (mem_getD (by omega))]

theorem isTst_iff {t : Tst} : isTst t = true ↔ validS t.1 = true ∧ (0 ≤ t.2.1 ∧ t.2.1 ≤ 3) ∧ (-999 ≤ t.2.2.1 ∧ t.2.2.1 ≤ 999) := by
  unfold isTst isReg isVal
  rw [Bool.and_eq_true, Bool.and_eq_true, within_iff, within_iff, and_assoc]
theorem validT_ok {l : List Tst} (h : validT l = 0) : l.length ≤ 8 ∧ ∀ t ∈ l, isTst t = true := by
  unfold validT at h
  split at h
  · omega
  · exact ⟨by omega, fun t ht => List.all_eq_true.1 (argErr_zero.1 h) t ht⟩
theorem errT_ok {p : List Lin} {l : List Tst} (h : errT [p] l = 0) : validP p = 0 ∧ validT l = 0 := by
  unfold errT firstErr firstErr at h
  by_cases e : validP p = 0
  · rw [if_pos e, if_pos rfl] at h; exact ⟨e, h⟩
  · rw [if_neg e, if_neg e] at h; exact absurd h e
theorem errT2_ok {p q : List Lin} {l : List Tst} (h : errT [p, q] l = 0) : validP p = 0 ∧ validP q = 0 ∧ validT l = 0 := by
  unfold errT firstErr firstErr firstErr at h
  by_cases e : validP p = 0
  · rw [if_pos e] at h
    by_cases e2 : validP q = 0
    · rw [if_pos e2, if_pos rfl] at h; exact ⟨e, e2, h⟩
    · rw [if_neg e2, if_neg e2] at h; exact absurd h e2
  · rw [if_neg e, if_neg e] at h; exact absurd h e

/-! ### Tables -/
def markTo (l : List Int) (r : List Int) : Nat → List Int
  | 0 => r
  | n + 1 => (markTo l r n).set (l.getD n 0).toNat 1
theorem markTo_len (l r : List Int) : ∀ n, (markTo l r n).length = r.length
  | 0 => rfl
  | n + 1 => by unfold markTo; rw [List.length_set, markTo_len l r n]
def rowT (p : List Lin) (t : Tst) : List Int := markTo (doneS p t.1) (List.replicate p.length 0) (doneS p t.1).length
theorem rowT_len (p : List Lin) (t : Tst) : (rowT p t).length = p.length := by unfold rowT; rw [markTo_len, List.length_replicate]
def tableT (p : List Lin) (l : List Tst) : List (List Int) := l.map (rowT p)
theorem doneS_ok {p : List Lin} {s : List Int} (h : validS s = true) {i : Nat} (hi : i < (doneS p s).length) : 0 ≤ (doneS p s).getD i 0 ∧ (doneS p s).getD i 0 < p.length := by
  have g : (doneS p s).getD i 0 ∈ doneS p s := mem_getD hi
  unfold doneS at g
  obtain ⟨v, hv, e⟩ := List.mem_map.1 g
  have := visits_ok h v hv
  unfold doneS
  omega
theorem doneS_len (p : List Lin) (s : List Int) : (doneS p s).length ≤ p.length := by unfold doneS; rw [List.length_map]; exact visits_len _ _ _
theorem map_take_next {α β : Type} (f : α → β) (l : List α) (d : α) {i : Nat} (h : i < l.length) : (l.map f).take (i + 1) = (l.map f).take i ++ [f (l.getD i d)] := by
  rw [← List.map_take, ← List.map_take, take_snoc d h, List.map_append]; rfl
/-- The lines done in some test. -/
def covTo (rows : List (List Int)) : Nat → List Int
  | 0 => []
  | n + 1 => covTo rows n ++ if (rows.any fun r => r.getD n 0 == 1) = true then [(n : Int)] else []
theorem covTo_len (rows : List (List Int)) : ∀ n, (covTo rows n).length ≤ n
  | 0 => Nat.le_refl _
  | n + 1 => by
    unfold covTo
    rw [List.length_append]
    have := covTo_len rows n
    split <;> simp <;> omega
def coverT (p : List Lin) (l : List Tst) : List Int := covTo (tableT p l) p.length
theorem table_row {p : List Lin} {l : List Tst} {r : List Int} (h : r ∈ tableT p l) : r.length = p.length := by
  obtain ⟨t, _, rfl⟩ := List.mem_map.1 h
  exact rowT_len p t
def tellsT (p q : List Lin) (l : List Tst) : List Int := whereL (fun t => endT p t != endT q t) l
theorem tells_comm (p q : List Lin) (l : List Tst) : tellsT q p l = tellsT p q l := by
  unfold tellsT
  congr 1
  funext t
  exact bne_comm
/-! ### Scores -/
def ratioQ (n d : Int) : Rtl := (n / (Int.gcd n d : Int), d / (Int.gcd n d : Int), ())
def badTo (rows : List (List Int)) (F : List Int) (k : Nat) : Nat → Int
  | 0 => 0
  | i + 1 => badTo rows F k i + if (i : Int) ∈ F then (rows.getD i []).getD k 0 else 0
def goodTo (rows : List (List Int)) (F : List Int) (k : Nat) : Nat → Int
  | 0 => 0
  | i + 1 => goodTo rows F k i + if (i : Int) ∈ F then 0 else (rows.getD i []).getD k 0
def failL (p : List Lin) (l : List Tst) : List Int := whereL (fun t => !passT p t) l
def scoreAt (p : List Lin) (l : List Tst) (k : Nat) : Rtl := if failL p l = [] then (0, 1, ()) else
  ratioQ (badTo (tableT p l) (failL p l) k l.length) ((failL p l).length + goodTo (tableT p l) (failL p l) k l.length)
def scoresT (p : List Lin) (l : List Tst) : List Rtl := (List.range p.length).map (scoreAt p l)

theorem markTo_bit {l r : List Int} (h : ∀ x ∈ r, x = 0 ∨ x = 1) : ∀ n, ∀ x ∈ markTo l r n, x = 0 ∨ x = 1
  | 0 => h
  | n + 1 => fun x hx => by
    unfold markTo at hx
    rcases List.mem_or_eq_of_mem_set hx with g | g
    · exact markTo_bit h n x g
    · exact .inr g
theorem rowT_bit (p : List Lin) (t : Tst) : ∀ x ∈ rowT p t, x = 0 ∨ x = 1 := markTo_bit (fun x hx => .inl (List.eq_of_mem_replicate hx)) _
theorem getD_bit {r : List Int} (h : ∀ x ∈ r, x = 0 ∨ x = 1) (k : Nat) : r.getD k 0 = 0 ∨ r.getD k 0 = 1 := by
  rcases Nat.lt_or_ge k r.length with g | g
  · exact h _ (mem_getD g)
  · rw [List.getD_eq_getElem?_getD, List.getElem?_eq_none g]; exact .inl rfl
theorem table_bit (p : List Lin) (l : List Tst) (i k : Nat) : ((tableT p l).getD i []).getD k 0 = 0 ∨ ((tableT p l).getD i []).getD k 0 = 1 := by
  rcases Nat.lt_or_ge i (tableT p l).length with g | g
  · have : (tableT p l).getD i [] ∈ tableT p l := mem_getD g
    obtain ⟨t, _, e⟩ := List.mem_map.1 this
    rw [← e]; exact getD_bit (rowT_bit p t) k
  · have e : (tableT p l).getD i [] = [] := by simp [List.getD_eq_getElem?_getD, List.getElem?_eq_none g]
    rw [e]; exact .inl rfl
theorem bad_good_bd (p : List Lin) (l : List Tst) (F : List Int) (k : Nat) : ∀ i, 0 ≤ badTo (tableT p l) F k i ∧ 0 ≤ goodTo (tableT p l) F k i ∧ badTo (tableT p l) F k i + goodTo (tableT p l) F k i ≤ i
  | 0 => by simp [badTo, goodTo]
  | i + 1 => by
    have ih := bad_good_bd p l F k i
    have b := table_bit p l i k
    unfold badTo goodTo
    split <;> omega
/-- How many of the places up to n are among them. -/
theorem badTo_le (p : List Lin) (l : List Tst) (f : Tst → Bool) (k : Nat) : ∀ i n, i ≤ n → badTo (tableT p l) (whereTo f l n) k i ≤ (whereTo f l i).length
  | 0, _, _ => by simp [badTo, whereTo]
  | i + 1, n, h => by
    have ih := badTo_le p l f k i n (by omega)
    have b := table_bit p l i k
    have hm : ∀ n, i < n → ((i : Int) ∈ whereTo f l n ↔ f (l.getD i tTs.dflt) = true) := by
      intro n hn
      induction n with
      | zero => omega
      | succ n ihn =>
        have hlt : ∀ n, ∀ x ∈ whereTo f l n, x < n := by
          intro n
          induction n with
          | zero => intro x hx; simp [whereTo] at hx
          | succ n ihn =>
            intro x hx
            unfold whereTo at hx
            rcases List.mem_append.1 hx with g | g
            · have := ihn x g; omega
            · split at g <;> simp at g
              omega
        unfold whereTo
        rw [List.mem_append]
        by_cases e : i = n
        · subst e
          constructor
          · rintro (g | g)
            · have := hlt _ _ g; omega
            · split at g
              · assumption
              · simp at g
          · intro g; right; rw [if_pos g]; simp
        · rw [ihn (by omega)]
          constructor
          · rintro (g | g)
            · exact g
            · split at g <;> simp at g
              omega
          · exact fun g => .inl g
    rw [show badTo (tableT p l) (whereTo f l n) k (i + 1) = badTo (tableT p l) (whereTo f l n) k i + if (i : Int) ∈ whereTo f l n then ((tableT p l).getD i []).getD k 0 else 0 from rfl, show whereTo f l (i + 1) = whereTo f l i ++ if f (l.getD i tTs.dflt) = true then [(i : Int)] else [] from rfl, List.length_append]
    by_cases g : f (l.getD i tTs.dflt) = true
    · rw [if_pos ((hm n (by omega)).2 g), if_pos g, List.length_singleton]; omega
    · rw [if_neg (fun q => g ((hm n (by omega)).1 q)), if_neg g, List.length_nil]; omega

theorem ratioQ_le {n d : Int} (h0 : 0 ≤ n) (h1 : n ≤ d) (h2 : 0 < d) : (ratioQ n d).1 ≤ (ratioQ n d).2.1 := Int.ediv_le_ediv (by have := Int.gcd_pos_of_ne_zero_right n (show d ≠ 0 by omega); omega) h1
end Go.Tk
