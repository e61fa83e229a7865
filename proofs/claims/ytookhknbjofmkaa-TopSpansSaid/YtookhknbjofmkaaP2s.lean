/- Plain facts: the states of a box, in ascending order (layer 2). No program in sight. -/
import Derived.Test.YtookhknbjofmkaaP2t
set_option linter.unusedSimpArgs false
set_option linter.unusedVariables false
namespace Go.Tk
open Go Go.RowKit

/-- d numbers from l on. -/
def exts (l : Int) : Nat → List Int
  | 0 => []
  | d + 1 => l :: exts (l + 1) d

/-- The states of some ranges, in ascending order. -/
def statesL : List (Int × Int) → List (List Int)
  | [] => [[]]
  | (l, h) :: r => (exts l (h - l + 1).toNat).flatMap fun n => (statesL r).map fun s => n :: s

def lowsL : List (Int × Int) → List Int
  | [] => []
  | (l, h) :: r => l :: lowsL r

/-- The state behind a state. -/
def succL : List (Int × Int) → List Int → Option (List Int)
  | (l, h) :: r, n :: s => match succL r s with
    | some s' => some (n :: s')
    | none => if n < h then some ((n + 1) :: lowsL r) else none
  | _, _ => none

def rngs (c : Ctr) : List (Int × Int) := List.zip c.1 c.2.1
def statesC (c : Ctr) : List (List Int) := statesL (rngs c)
def seqC (c : Ctr) : List (List Int × Unit) := (statesC c).map fun s => (s, ())

def keepS (p : List Lin) (c : Ctr) (s : List Int) : Bool := within (Rg (runS p s) c.2.2.1) c.2.2.2.1 c.2.2.2.2.1
def badL (p : List Lin) (c : Ctr) : List (List Int) := (statesC c).filter fun s => !keepS p c s
def cErr (p : List Lin) (c : Ctr) : Int := if validP p = 0 then validC c else validP p
theorem firstErr_one (p : List Lin) : firstErr [p] = validP p := by
  unfold firstErr
  by_cases h : validP p = 0
  · rw [if_pos h, h]; rfl
  · rw [if_neg h]
def cErr2 (p q : List Lin) (c : Ctr) : Int := if validP p = 0 then cErr q c else validP p
theorem cErr_ok {p : List Lin} {c : Ctr} (h : cErr p c = 0) : validP p = 0 ∧ validC c = 0 := by
  unfold cErr at h
  by_cases g : validP p = 0
  · rw [if_pos g] at h; exact ⟨g, h⟩
  · rw [if_neg g] at h; exact absurd h g

theorem find_head {α : Type} (f : α → Bool) (d : α) (l : List α) : (l.find? f).getD d = (l.filter f).headD d := by
  rw [← List.head?_filter]; cases l.filter f <;> rfl
theorem find_some {α : Type} (f : α → Bool) (l : List α) : (l.find? f).isSome = !(l.filter f).isEmpty := by
  rw [← List.head?_filter]; cases l.filter f <;> rfl
theorem find_at {α : Type} {f : α → Bool} {l : List α} {k : Nat} {s : α} (h : (l.take k).find? f = none) (hs : l[k]? = some s) (hf : f s = true) : l.find? f = some s := by
  rw [← List.take_append_drop k l, List.find?_append, h]
  obtain ⟨hk, e⟩ := List.getElem?_eq_some_iff.1 hs
  rw [List.drop_eq_getElem_cons hk, List.find?_cons_of_pos (by rw [e]; exact hf), e]; rfl
theorem find_next {α : Type} {f : α → Bool} {l : List α} {k : Nat} {s : α} (h : (l.take k).find? f = none) (hs : l[k]? = some s) (hf : f s = false) : (l.take (k + 1)).find? f = none := by
  rw [List.take_add_one, List.find?_append, h, hs]
  simp [hf]
def difL (p q : List Lin) (c : Ctr) : List (List Int) := (statesC c).filter fun s => decide (Rg (runS p s) c.2.2.1 ≠ Rg (runS q s) c.2.2.1)
def minE (p : List Lin) (c : Ctr) : Int := if cErr p c = 0 then (statesC c).foldl (fun a s => min a (Rg (runS p s) c.2.2.1)) 999 else 0
def maxE (p : List Lin) (c : Ctr) : Int := if cErr p c = 0 then (statesC c).foldl (fun a s => max a (Rg (runS p s) c.2.2.1)) (-999) else 0

def Chn (f : List Int → Option (List Int)) : List (List Int) → Option (List Int) → Prop
  | [], _ => True
  | a :: t, z => (f a = (match t with | [] => z | b :: _ => some b)) ∧ Chn f t z

theorem chn_app {f : List Int → Option (List Int)} : ∀ (a b : List (List Int)) (z : Option (List Int)),
    Chn f a (match b with | [] => z | x :: _ => some x) → Chn f b z → Chn f (a ++ b) z
  | [], b, z, _, h => h
  | x :: [], b, z, h, g => by
    cases b with
    | nil => exact h
    | cons y t => exact ⟨h.1, g⟩
  | x :: y :: a, b, z, h, g => ⟨h.1, chn_app (y :: a) b z h.2 g⟩

theorem chn_map {f g : List Int → Option (List Int)} {n : Int} {w : Option (List Int)} (hf : ∀ a, f (n :: a) = (match g a with | some s' => some (n :: s') | none => w)) :
    ∀ (t : List (List Int)), Chn g t none → Chn f (t.map fun s => n :: s) w
  | [], _ => trivial
  | a :: [], h => ⟨by show f (n :: a) = w; rw [hf, h.1], trivial⟩
  | a :: b :: t, h => ⟨by show f (n :: a) = some (n :: b); rw [hf, h.1], chn_map hf (b :: t) h.2⟩

theorem chn_get {f : List Int → Option (List Int)} : ∀ (l : List (List Int)), Chn f l none → ∀ k s, l[k]? = some s → l[k + 1]? = f s
  | [], _, k, s, h => by simp at h
  | a :: [], g, 0, s, h => by
    simp only [List.getElem?_cons_zero, Option.some.injEq] at h
    subst h; rw [g.1]; rfl
  | a :: b :: t, g, 0, s, h => by
    simp only [List.getElem?_cons_zero, Option.some.injEq] at h
    subst h; rw [g.1]; rfl
  | a :: t, g, k + 1, s, h => by
    rw [List.getElem?_cons_succ] at h ⊢
    exact chn_get t g.2 k s h

def okR (R : List (Int × Int)) : Prop := ∀ q ∈ R, q.1 ≤ q.2

theorem exts_pos {l h : Int} (g : l ≤ h) : ∃ d, (h - l + 1).toNat = d + 1 := ⟨(h - l).toNat, by omega⟩

theorem states_head : ∀ (R : List (Int × Int)), okR R → ∃ t, statesL R = lowsL R :: t
  | [], _ => ⟨[], rfl⟩
  | (l, h) :: r, g => by
    obtain ⟨t, e⟩ := states_head r fun q hq => g q (List.mem_cons_of_mem _ hq)
    obtain ⟨d, ed⟩ := exts_pos (g (l, h) (List.mem_cons_self ..))
    unfold statesL
    rw [ed, e]
    exact ⟨_, rfl⟩

theorem states_chn : ∀ (R : List (Int × Int)), okR R → Chn (succL R) (statesL R) none
  | [], _ => ⟨rfl, trivial⟩
  | (l, h) :: r, g => by
    have gr : okR r := fun q hq => g q (List.mem_cons_of_mem _ hq)
    have hr := states_chn r gr
    obtain ⟨t, et⟩ := states_head r gr
    have lh := g (l, h) (List.mem_cons_self ..)
    have key : ∀ (d : Nat) (n : Int), n + d = h + 1 → Chn (succL ((l, h) :: r)) ((exts n d).flatMap fun n => (statesL r).map fun s => n :: s) none := by
      intro d
      induction d with
      | zero => intro n _; exact trivial
      | succ d ih =>
        intro n hn
        unfold exts
        rw [List.flatMap_cons]
        refine chn_app _ _ _ ?_ (ih (n + 1) (by omega))
        refine chn_map (g := succL r) ?_ _ hr
        intro a
        show (match succL r a with | some s' => some (n :: s') | none => if n < h then some ((n + 1) :: lowsL r) else none) = _
        cases hd : d with
        | zero =>
          rw [if_neg (by omega)]; rfl
        | succ e =>
          rw [if_pos (by omega), et]
          rfl
    exact key _ l (by show l + ((h - l + 1).toNat : Int) = h + 1; omega)

theorem states_next {R : List (Int × Int)} (g : okR R) {k : Nat} {s : List Int} (h : (statesL R)[k]? = some s) : (statesL R)[k + 1]? = succL R s := chn_get _ (states_chn R g) k s h

theorem exts_mem : ∀ (d : Nat) (l x : Int), x ∈ exts l d ↔ l ≤ x ∧ x < l + d
  | 0, l, x => by
    simp only [exts, List.not_mem_nil, false_iff]
    omega
  | d + 1, l, x => by
    rw [exts, List.mem_cons, exts_mem d (l + 1) x]
    omega
theorem exts_len : ∀ (d : Nat) (l : Int), (exts l d).length = d
  | 0, l => rfl
  | d + 1, l => by rw [exts, List.length_cons, exts_len d]

def inR : List (Int × Int) → List Int → Prop
  | [], [] => True
  | (l, h) :: r, n :: s => (l ≤ n ∧ n ≤ h) ∧ inR r s
  | _, _ => False

theorem states_mem : ∀ (R : List (Int × Int)) (s : List Int), s ∈ statesL R ↔ inR R s
  | [], s => by cases s <;> simp [statesL, inR]
  | (l, h) :: r, s => by
    unfold statesL
    rw [List.mem_flatMap]
    constructor
    · rintro ⟨n, hn, hs⟩
      obtain ⟨t, ht, rfl⟩ := List.mem_map.1 hs
      have := (exts_mem _ _ _).1 hn
      exact ⟨⟨by omega, by omega⟩, (states_mem r t).1 ht⟩
    · intro hs
      cases s with
      | nil => exact hs.elim
      | cons n t => exact ⟨n, (exts_mem _ _ _).2 ⟨hs.1.1, by have := hs.1; omega⟩, List.mem_map.2 ⟨t, (states_mem r t).2 hs.2, rfl⟩⟩

/-- As the code does it: from the right. -/
def odo (L H : List Int) : Nat → List Int → Option (List Int)
  | 0, _ => none
  | r + 1, s => if s.getD r 0 = H.getD r 0 then odo L H r (s.set r (L.getD r 0)) else some (s.set r (s.getD r 0 + 1))

theorem odo_four {l0 l1 l2 l3 h0 h1 h2 h3 a b c d : Int} (ga : a ≤ h0) (gb : b ≤ h1) (gc : c ≤ h2) (gd : d ≤ h3) :
    odo [l0, l1, l2, l3] [h0, h1, h2, h3] 4 [a, b, c, d] = succL [(l0, h0), (l1, h1), (l2, h2), (l3, h3)] [a, b, c, d] := by
  have e : ∀ {x y : Int}, x ≤ y → x ≠ y → x < y := fun h g => by omega
  by_cases e3 : d = h3
  · subst e3
    by_cases e2 : c = h2
    · subst e2
      by_cases e1 : b = h1
      · subst e1
        by_cases e0 : a = h0
        · subst e0
          simp [odo, succL, lowsL]
        · simp [odo, succL, lowsL, e0, e ga e0]
      · simp [odo, succL, lowsL, e1, e gb e1]
    · simp [odo, succL, lowsL, e2, e gc e2]
  · simp [odo, succL, lowsL, e3, e gd e3]

theorem four_list {l : List Int} (h : l.length = 4) : ∃ a b c d, l = [a, b, c, d] := by
  match l, h with
  | [a, b, c, d], _ => exact ⟨a, b, c, d, rfl⟩

theorem okR_box {c : Ctr} (h : boxC c) : okR (rngs c) := by
  intro q hq
  unfold rngs at hq
  obtain ⟨i, hi, rfl⟩ := List.mem_iff_getElem.1 hq
  have l1 := validS_len h.1
  have l2 := validS_len h.2.1
  rw [List.length_zip] at hi
  have g := (boxC_wid h (i := i) (by omega)).1
  rw [List.getElem_zip]
  rw [List.getD_eq_getElem?_getD, List.getD_eq_getElem?_getD, List.getElem?_eq_getElem (by omega), List.getElem?_eq_getElem (by omega)] at g
  exact g

/-- A state of the box: its length and its bounds. -/
theorem stateC_iff {c : Ctr} (h : boxC c) {s : List Int} : s ∈ statesC c ↔ s.length = 4 ∧ ∀ i, i < 4 → c.1.getD i 0 ≤ s.getD i 0 ∧ s.getD i 0 ≤ c.2.1.getD i 0 := by
  unfold statesC rngs
  rw [states_mem]
  obtain ⟨l0, l1, l2, l3, el⟩ := four_list (validS_len h.1)
  obtain ⟨h0, h1, h2, h3, eh⟩ := four_list (validS_len h.2.1)
  rw [el, eh]
  constructor
  · intro g
    match s, g with
    | [a, b, d, e], g =>
      obtain ⟨g0, g1, g2, g3, _⟩ := g
      refine ⟨rfl, fun i hi => ?_⟩
      have : i = 0 ∨ i = 1 ∨ i = 2 ∨ i = 3 := by omega
      rcases this with rfl | rfl | rfl | rfl
      · exact g0
      · exact g1
      · exact g2
      · exact g3
    | [], g => exact g.elim
    | [a], g => exact g.2.elim
    | [a, b], g => exact g.2.2.elim
    | [a, b, d], g => exact g.2.2.2.elim
    | a :: b :: d :: e :: f :: t, g => exact g.2.2.2.2.elim
  · rintro ⟨g, w⟩
    obtain ⟨a, b, d, e, rfl⟩ := four_list g
    exact ⟨w 0 (by omega), w 1 (by omega), w 2 (by omega), w 3 (by omega), trivial⟩

theorem stateC_valid {c : Ctr} (h : boxC c) {s : List Int} (hs : s ∈ statesC c) : validS s = true := by
  obtain ⟨h1, h2⟩ := (stateC_iff h).1 hs
  refine validS_iff.2 ⟨h1, ?_⟩
  intro x hx
  obtain ⟨i, hi, rfl⟩ := List.mem_iff_getElem.1 hx
  have g := h2 i (by omega)
  have w := boxC_wid h (i := i) (by omega)
  have e : s.getD i 0 = s[i] := by rw [List.getD_eq_getElem?_getD, List.getElem?_eq_getElem hi]; rfl
  rw [e] at g
  omega

theorem flatMap_len {α β : Type} (f : α → List β) (n : Nat) : ∀ (l : List α), (∀ a ∈ l, (f a).length = n) → (l.flatMap f).length = l.length * n
  | [], _ => by simp
  | a :: l, h => by
    rw [List.flatMap_cons, List.length_append, flatMap_len f n l fun b hb => h b (List.mem_cons_of_mem _ hb), h a (List.mem_cons_self ..), List.length_cons, Nat.add_mul]
    omega

theorem statesC_len {c : Ctr} (h : boxC c) : ((statesC c).length : Int) = sizeC c := by
  have w0 := (boxC_wid h (i := 0) (by omega)).1
  have w1 := (boxC_wid h (i := 1) (by omega)).1
  have w2 := (boxC_wid h (i := 2) (by omega)).1
  have w3 := (boxC_wid h (i := 3) (by omega)).1
  unfold statesC rngs sizeC
  obtain ⟨l0, l1, l2, l3, el⟩ := four_list (validS_len h.1)
  obtain ⟨h0, h1, h2, h3, eh⟩ := four_list (validS_len h.2.1)
  rw [el, eh] at w0 w1 w2 w3 ⊢
  replace w0 : l0 ≤ h0 := w0
  replace w1 : l1 ≤ h1 := w1
  replace w2 : l2 ≤ h2 := w2
  replace w3 : l3 ≤ h3 := w3
  have step : ∀ (l h : Int) (r : List (Int × Int)), l ≤ h → ((statesL ((l, h) :: r)).length : Int) = (h - l + 1) * (statesL r).length := by
    intro l h r g
    show (((exts l (h - l + 1).toNat).flatMap fun n => (statesL r).map fun s => n :: s).length : Int) = _
    rw [flatMap_len _ (statesL r).length _ fun a _ => by rw [List.length_map], exts_len, Int.natCast_mul]
    congr 1
    omega
  show ((statesL [(l0, h0), (l1, h1), (l2, h2), (l3, h3)]).length : Int) = 1 * (h0 - l0 + 1) * (h1 - l1 + 1) * (h2 - l2 + 1) * (h3 - l3 + 1)
  rw [step _ _ _ w0, step _ _ _ w1, step _ _ _ w2, step _ _ _ w3]
  show _ * (_ * (_ * (_ * (1 : Int)))) = _
  rw [Int.mul_one, Int.one_mul, Int.mul_assoc, Int.mul_assoc]

theorem seqC_get {c : Ctr} {k : Nat} {s : List Int} : (seqC c)[k]? = some (s, ()) ↔ (statesC c)[k]? = some s := by
  unfold seqC
  rw [List.getElem?_map]
  cases (statesC c)[k]? <;> simp
theorem seqC_len (c : Ctr) : (seqC c).length = (statesC c).length := by unfold seqC; rw [List.length_map]

theorem stateC_next {c : Ctr} (h : boxC c) {k : Nat} {s : List Int} (hs : (statesC c)[k]? = some s) : (statesC c)[k + 1]? = odo c.1 c.2.1 4 s := by
  have hm := (stateC_iff h).1 (List.mem_of_getElem? hs)
  obtain ⟨a, b, d, e, rfl⟩ := four_list hm.1
  have w := hm.2
  rw [show (statesC c)[k + 1]? = succL (rngs c) [a, b, d, e] from states_next (okR_box h) hs]
  unfold rngs
  obtain ⟨l0, l1, l2, l3, el⟩ := four_list (validS_len h.1)
  obtain ⟨h0, h1, h2, h3, eh⟩ := four_list (validS_len h.2.1)
  rw [el, eh] at w ⊢
  exact (odo_four (w 0 (by omega)).2 (w 1 (by omega)).2 (w 2 (by omega)).2 (w 3 (by omega)).2).symm

theorem stateC_head {c : Ctr} (h : boxC c) : (statesC c)[0]? = some c.1 := by
  obtain ⟨t, e⟩ := states_head (rngs c) (okR_box h)
  unfold statesC
  rw [e]
  unfold rngs
  obtain ⟨l0, l1, l2, l3, el⟩ := four_list (validS_len h.1)
  obtain ⟨h0, h1, h2, h3, eh⟩ := four_list (validS_len h.2.1)
  rw [el, eh]
  rfl

theorem statesL_snoc (x : Int × Int) : ∀ (R : List (Int × Int)), statesL (R ++ [x]) = (statesL R).flatMap fun s => (exts x.1 (x.2 - x.1 + 1).toNat).map fun n => s ++ [n]
  | [] => by
    obtain ⟨l, h⟩ := x
    show (exts l (h - l + 1).toNat).flatMap (fun n => [[n]]) = (exts l (h - l + 1).toNat).map (fun n => [n]) ++ []
    rw [List.append_nil]
    induction exts l (h - l + 1).toNat with
    | nil => rfl
    | cons a t ih => rw [List.flatMap_cons, ih]; rfl
  | (l, h) :: r => by
    show (exts l (h - l + 1).toNat).flatMap (fun n => (statesL (r ++ [x])).map fun s => n :: s) = ((exts l (h - l + 1).toNat).flatMap fun n => (statesL r).map fun s => n :: s).flatMap _
    rw [statesL_snoc x r, List.flatMap_assoc]
    congr 1
    funext n
    rw [List.map_flatMap, List.flatMap_map]
    congr 1
    funext s
    rw [List.map_map]
    rfl

theorem rngs_len {c : Ctr} (h : boxC c) : (rngs c).length = 4 := by
  have l1 := validS_len h.1
  have l2 := validS_len h.2.1
  unfold rngs
  rw [List.length_zip]; omega

theorem rngs_next {c : Ctr} (h : boxC c) {r : Nat} (hr : r < 4) : (rngs c).take (r + 1) = (rngs c).take r ++ [(c.1.getD r 0, c.2.1.getD r 0)] := by
  have l1 := validS_len h.1
  have l2 := validS_len h.2.1
  rw [List.take_add_one]
  congr 1
  unfold rngs
  rw [List.getElem?_eq_getElem (by rw [List.length_zip]; omega), List.getElem_zip, List.getD_eq_getElem?_getD, List.getD_eq_getElem?_getD, List.getElem?_eq_getElem (by omega), List.getElem?_eq_getElem (by omega)]
  rfl

theorem takes_len {c : Ctr} (h : boxC c) : ∀ r, r ≤ 4 → ((statesL ((rngs c).take r)).length : Int) = prodTo c.1 c.2.1 r
  | 0, _ => rfl
  | r + 1, hr => by
    have w := (boxC_wid h (i := r) (by omega)).1
    rw [rngs_next h (by omega), statesL_snoc, flatMap_len _ (c.2.1.getD r 0 - c.1.getD r 0 + 1).toNat _ fun a _ => by rw [List.length_map, exts_len], Int.natCast_mul, takes_len h r (by omega), prodTo]
    congr 1
    omega

theorem prodTo_le {c : Ctr} (h : boxC c) (r : Nat) (hr : r ≤ 4) : prodTo c.1 c.2.1 r ≤ prodTo c.1 c.2.1 4 := by
  have st : ∀ i, i < 4 → prodTo c.1 c.2.1 i ≤ prodTo c.1 c.2.1 (i + 1) := by
    intro i hi
    have g := (prodTo_inI h (i := i) (by omega)).1
    have w := (boxC_wid h (i := i) hi).1
    have e : prodTo c.1 c.2.1 i * 1 ≤ prodTo c.1 c.2.1 i * (c.2.1.getD i 0 - c.1.getD i 0 + 1) := Int.mul_le_mul_of_nonneg_left (by omega) (by omega)
    rw [Int.mul_one] at e
    exact e
  have s0 : _ ≤ prodTo c.1 c.2.1 1 := st 0 (by omega)
  have s1 : _ ≤ prodTo c.1 c.2.1 2 := st 1 (by omega)
  have s2 : _ ≤ prodTo c.1 c.2.1 3 := st 2 (by omega)
  have s3 : _ ≤ prodTo c.1 c.2.1 4 := st 3 (by omega)
  have : r = 0 ∨ r = 1 ∨ r = 2 ∨ r = 3 ∨ r = 4 := by omega
  rcases this with rfl | rfl | rfl | rfl | rfl <;> omega

theorem states_size {c : Ctr} (h : validC c = 0) {r : Nat} (hr : r ≤ 4) : (statesL ((rngs c).take r)).length ≤ 400 := by
  obtain ⟨g3, g4⟩ := validC_ok h
  have hb := (isCtr_box g3).1
  have h1 := takes_len hb r hr
  have h2 := prodTo_le hb r hr
  unfold sizeC at g4
  omega

theorem statesL_mem_len : ∀ (R : List (Int × Int)) (s : List Int), s ∈ statesL R → s.length = R.length
  | [], s, h => by cases s with | nil => rfl | cons a t => simp [statesL] at h
  | (l, w) :: r, s, h => by
    have g := (states_mem _ _).1 h
    cases s with
    | nil => exact g.elim
    | cons a t =>
      have := statesL_mem_len r t ((states_mem r t).2 g.2)
      simp [this]

theorem exts_snoc : ∀ (d : Nat) (l : Int), exts l (d + 1) = exts l d ++ [l + d]
  | 0, l => by simp [exts]
  | d + 1, l => by
    show l :: exts (l + 1) (d + 1) = l :: exts (l + 1) d ++ [l + ((d + 1 : Nat) : Int)]
    rw [exts_snoc d (l + 1), List.cons_append]
    congr 3
    omega
end Go.Tk
