import Derived.Test.YthjkkjnnkkekeaaC7o
set_option linter.unusedSimpArgs false
set_option linter.unusedVariables false
set_option linter.unnecessarySimpa false
namespace Go.Tk
open Go Go.RowKit

def backL (h : List (List Edt)) : Nat → List (Int × List Edt × Unit)
  | 0 => []
  | n + 1 => ((n : Int), h.getD n [], ()) :: backL h n
theorem backL_len (h : List (List Edt)) : ∀ n, (backL h n).length = n
  | 0 => rfl
  | n + 1 => by unfold backL; rw [List.length_cons, backL_len h n]
theorem backL_get (h : List (List Edt)) : ∀ n k, k < n → (backL h n)[k]? = some (((n - 1 - k : Nat) : Int), h.getD (n - 1 - k) [], ())
  | 0, k, hk => by omega
  | n + 1, 0, hk => by unfold backL; simp
  | n + 1, k + 1, hk => by
    unfold backL
    rw [List.getElem?_cons_succ, backL_get h n k (by omega), show n + 1 - 1 - (k + 1) = n - 1 - k by omega]
def touL (x : List Edt) (line : Int) : Bool := x.any fun e => e.1 == line
def lastT (h : List (List Edt)) (line : Int) : Nat → Option Nat
  | 0 => none
  | n + 1 => if touL (h.getD n []) line = true then some n else lastT h line n
theorem lastT_lt {h : List (List Edt)} {line : Int} : ∀ {n m}, lastT h line n = some m → m < n ∧ touL (h.getD m []) line = true
  | 0, m, e => by simp [lastT] at e
  | n + 1, m, e => by
    unfold lastT at e
    split at e
    · rename_i g
      cases e; exact ⟨by omega, g⟩
    · have := lastT_lt e; exact ⟨by omega, this.2⟩
def okL7 (p : List Lin) (h : List (List Edt)) (line : Int) : Prop := err7 p h = 0 ∧ within line 0 ((p.length : Int) - 1) = true
instance (p : List Lin) (h : List (List Edt)) (line : Int) : Decidable (okL7 p h line) := inferInstanceAs (Decidable (_ ∧ _))
def natO : Option Nat → Int
  | some n => (n : Int)
  | none => 0
def whoN (p : List Lin) (h : List (List Edt)) (line : Int) : Int := if okL7 p h line then natO (lastT h line h.length) else 0
def whoB (p : List Lin) (h : List (List Edt)) (line : Int) : Bool := if okL7 p h line then (lastT h line h.length).isSome else false
def whoE (p : List Lin) (h : List (List Edt)) (line : Int) : Int := if err7 p h = 0 then (if within line 0 ((p.length : Int) - 1) = true then 0 else 4) else err7 p h
theorem whoE_iff {p : List Lin} {h : List (List Edt)} {n : Int} : whoE p h n = 0 ↔ okL7 p h n := by
  unfold whoE okL7
  by_cases e : err7 p h = 0
  · rw [if_pos e]
    by_cases w : within n 0 ((p.length : Int) - 1) = true
    · rw [if_pos w]; simp [e, w]
    · rw [if_neg w]; simp [w]
  · rw [if_neg e]; simp [e]
def wantX (l : List Edt) (line : Int) (w : Lin) : Lin := l.foldl (fun w e => if e.1 = line then e.2.1 else w) w
theorem wantX_none {l : List Edt} {line : Int} : ∀ {w}, touL l line = false → wantX l line w = w := by
  induction l with
  | nil => intro w _; rfl
  | cons e l ih =>
    intro w h
    unfold touL at h ih
    rw [List.any_cons, Bool.or_eq_false_iff] at h
    show wantX l line (if e.1 = line then e.2.1 else w) = w
    rw [ih h.2, if_neg (by simpa using h.1)]
theorem wantX_some {l : List Edt} {line : Int} : ∀ {w u}, touL l line = true → wantX l line w = wantX l line u := by
  induction l with
  | nil => intro w u h; simp [touL] at h
  | cons e l ih =>
    intro w u h
    show wantX l line (if e.1 = line then e.2.1 else w) = wantX l line (if e.1 = line then e.2.1 else u)
    by_cases c : e.1 = line
    · rw [if_pos c, if_pos c]
    · rw [if_neg c, if_neg c]
      unfold touL at h ih
      rw [List.any_cons] at h
      have : (e.1 == line) = false := by simpa using c
      rw [this, Bool.false_or] at h
      exact ih h
theorem wantX_take (l : List Edt) (line : Int) (w : Lin) {i : Nat} (hi : i < l.length) : wantX (l.take (i + 1)) line w = if (l.getD i tEd.dflt).1 = line then (l.getD i tEd.dflt).2.1 else wantX (l.take i) line w := by
  unfold wantX
  rw [take_snoc tEd.dflt hi, List.foldl_append]; rfl
theorem playX_get {l : List Edt} {line : Nat} : ∀ {q : List Lin}, (∀ e ∈ l, 0 ≤ e.1) → line < q.length → (playX q l).getD line tL.dflt = wantX l line (q.getD line tL.dflt) := by
  induction l with
  | nil => intro q _ _; rfl
  | cons e l ih =>
    intro q h hl
    show (playX (q.set e.1.toNat e.2.1) l).getD line tL.dflt = wantX l line (if e.1 = line then e.2.1 else q.getD line tL.dflt)
    rw [ih (fun e he => h e (List.mem_cons_of_mem _ he)) (by simpa using hl)]
    congr 1
    have h0 := h e (List.mem_cons_self ..)
    by_cases c : e.1 = line
    · rw [if_pos c, getD_setL (by omega), if_pos (by omega)]
    · rw [if_neg c]
      simp only [List.getD_eq_getElem?_getD, List.getElem?_set]
      rw [if_neg (by omega)]
theorem playH_get {p : List Lin} {h : List (List Edt)} {line : Nat} (ho : okH p.length h) (hl : line < p.length) : ∀ n, n ≤ h.length → (playH p (h.take n)).getD line tL.dflt = (match lastT h (line : Int) n with | some m => wantX (h.getD m []) line (p.getD line tL.dflt) | none => p.getD line tL.dflt)
  | 0, _ => by simp [lastT, playH]
  | n + 1, hn => by
    rw [playH_take p h (by omega), playX_get (fun e he => (ho _ (mem_getD (by omega)) e he).1) (by rw [playH_len]; exact hl), playH_get ho hl n (by omega)]
    rw [show lastT h (line : Int) (n + 1) = if touL (h.getD n []) (line : Int) = true then some n else lastT h (line : Int) n from rfl]
    by_cases c : touL (h.getD n []) (line : Int) = true
    · rw [if_pos c]
      exact wantX_some c
    · rw [if_neg c]
      exact wantX_none (Bool.eq_false_iff.2 c)

abbrev cBack1 : Con := { A := (.cons (.ref (.sl (.sl tEd))) .nil), R := .seq false (.cons .int (.cons (.sl tEd) .nil)), pre := fun _ => True, F := fun x => ((True, backL x.1 (x.1).length) : Prop × List (Int × (List Edt) × Unit)) }
def cBack1_0 (Λ1 : Int → Nat → Prop) (c0 : (List (List Edt))) (y0 : List (Int × (List Edt) × Unit)) : Prop :=
  inI ((List.length c0 : Int) - (1 : Int)) ∧ Λ1 ((List.length c0 : Int) - (1 : Int)) 0
def cBack1_1 (Λ1 : Int → Nat → Prop) (c0 : (List (List Edt))) (y0 : List (Int × (List Edt) × Unit))  (i_1 : Int) (k_1 : Nat) : Prop :=
  if (decide (i_1 ≥ (0 : Int))) = true then (idx i_1 (List.length c0 : Int) ∧ (y0[k_1]? = some (i_1, (List.getD c0 (Int.toNat i_1) ([] : List Edt)), ()) ∧ (inI (i_1 - (1 : Int)) ∧ Λ1 (i_1 - (1 : Int)) (k_1 + 1)) ∧ True)) else k_1 = List.length y0
theorem cBack1_law (h : ∀ (c0 : (List (List Edt))), cBack1.A.wf (c0, ()) → ((True, backL c0 (c0).length)).1 → ∀ (Λ1 : Int → Nat → Prop), (∀ (i_1 : Int) (k_1 : Nat), cBack1_1 Λ1 c0 ((True, backL c0 (c0).length)).2 i_1 k_1 → Λ1 i_1 k_1) → cBack1_0 Λ1 c0 ((True, backL c0 (c0).length)).2) : ConOK Go.Proofs.Try.prog 101 cBack1 := by
  refine lawIt (X := { subs := [], frz := [], U := [], mul := [], nst := [], nls := [], itf := some false }) (hX := xok0 _) (Γ := []) (Θ := Th) (n := 19) [([1, 0], ⟨[(0, true), (1, false), (3, true)], [(5000000, true)]⟩)] trivial (by kernel_rfl) th_ok mix_ok Go.Proofs.Try.func101 (by kernel_rfl) ?_
  intro x hw hp Λ hC
  have h0 := h x.1 hw hp (fun i_1 k_1 => Λ [1, 0] ([(0, .yld), (1, .d false (.ref (.sl (.sl tEd))) x.1), (3, .d true .int i_1)], [(5000000, .it (.cons .int (.cons (.sl tEd) .nil)) (cBack1.F x).2 k_1)])) (fun i_1 k_1 hb => hC [1, 0] ([(0, .yld), (1, .d false (.ref (.sl (.sl tEd))) x.1), (3, .d true .int i_1)], [(5000000, .it (.cons .int (.cons (.sl tEd) .nil)) (cBack1.F x).2 k_1)]) (Eq.mpr (by kernel_rfl) hb))
  exact Eq.mpr (by kernel_rfl) h0
theorem cBack1_ok : ConOK Go.Proofs.Try.prog 101 cBack1 := by
  refine cBack1_law ?_
  intro c0 hw hp Λ1 h1
  unfold cBack1_0
  have hlc : c0.length ≤ 140737488355328 := hw.1.1
  refine ⟨by unfold inI; omega, ?_⟩
  have key := upto (n := c0.length) (Q := fun k => Λ1 ((c0.length : Int) - 1 - k) k) ?_ ?_ 0 (Nat.zero_le _)
  · simpa using key
  · apply h1; unfold cBack1_1
    rw [if_neg (by rw [decide_eq_true_eq]; omega), backL_len]
  · intro k hk ih
    apply h1; unfold cBack1_1
    rw [if_pos (by rw [decide_eq_true_eq]; omega), backL_get c0 _ k hk]
    have e : ((c0.length : Int) - 1 - k).toNat = c0.length - 1 - k := by omega
    rw [e]
    refine ⟨⟨by omega, by omega⟩, ?_, ⟨by unfold inI; omega, ?_⟩, trivial⟩
    · congr 2; omega
    · rw [show ((c0.length : Int) - 1 - k - 1) = (c0.length : Int) - 1 - ((k + 1 : Nat) : Int) by omega]; exact ih
abbrev cBack : Con := { A := (.cons (.sl (.sl tEd)) .nil), R := (.cons (.seq false (.cons .int (.cons (.sl tEd) .nil))) .nil), pre := fun x => True, F := fun x => ((True, backL x.1 (x.1).length), ()), al := true }
def cBack_0  (s : (List (List Edt))) (y0 : (Prop × List (Int × (List Edt) × Unit))) : Prop :=
  ((True, backL s (s).length)) = y0 ∧ True
theorem cBack_law (h : ∀ (s : (List (List Edt))), cBack.A.wf (s, ()) → cBack_0  s (True, backL s (s).length)) : ConOK Go.Proofs.Try.prog 79 cBack := by
  refine lawX (X := { subs := [], frz := [1], U := [], mul := [], nst := [], nls := [], itf := none }) (hX := xok0 _) (Γ := [(101, cBack1)]) (Θ := Th) (n := 4) [] ⟨cBack1_ok, trivial⟩ (by kernel_rfl) th_ok mix_ok Go.Proofs.Try.func79 (by kernel_rfl) ?_
  intro x hw hp Λ hC
  have h0 := h x.1 hw  
  exact Eq.mpr (by kernel_rfl) h0
theorem cBack_ok : ConOK Go.Proofs.Try.prog 79 cBack := by
  refine cBack_law ?_
  intro s hw
  unfold cBack_0
  exact ⟨rfl, trivial⟩
abbrev cWho1 : Con := { A := (.cons tEd (.cons (.ref .int) .nil)), R := (.cons .bool .nil), pre := fun x => True, F := fun x => (x.1.1 == x.2.1, ()) }
def cWho1_0  (e : Edt) (c0 : Int) (y0 : Bool) : Prop :=
  (e.1 == c0) = y0 ∧ True
theorem cWho1_law (h : ∀ (e : Edt) (c0 : Int), cWho1.A.wf (e, c0, ()) → cWho1_0  e c0 (e.1 == c0)) : ConOK Go.Proofs.Try.prog 80 cWho1 := by
  refine lawL (Γ := []) (Θ := Th) (n := 8) [] trivial (by kernel_rfl) th_ok mix_ok Go.Proofs.Try.func80 (by kernel_rfl) ?_
  intro x hw hp Λ hC
  have h0 := h x.1 x.2.1 hw  
  exact Eq.mpr (by kernel_rfl) h0
theorem cWho1_ok : ConOK Go.Proofs.Try.prog 80 cWho1 := by
  refine cWho1_law ?_
  intro e c0 hw
  unfold cWho1_0
  exact ⟨rfl, trivial⟩
abbrev cWho : Con := { A := (.cons (.sl tL) (.cons (.sl (.sl tEd)) (.cons .int .nil))), R := (.cons .int (.cons .bool (.cons .int .nil))), pre := fun x => True, F := fun x => (whoN x.1 x.2.1 x.2.2.1, whoB x.1 x.2.1 x.2.2.1, whoE x.1 x.2.1 x.2.2.1, ()) }
def cWho_0 (Λ1 : Nat → Prop) (p : (List Lin)) (h : (List (List Edt))) (line : Int) (y0 : Int) (y1 : Bool) (y2 : Int) : Prop :=
  True ∧ (if ((err7 p h) != (0 : Int)) = true then ((0 : Int) = y0 ∧ false = y1 ∧ (err7 p h) = y2 ∧ True) else (inI ((List.length p : Int) - (1 : Int)) ∧ (True ∧ (if (!(within line (0 : Int) ((List.length p : Int) - (1 : Int)))) = true then ((0 : Int) = y0 ∧ false = y1 ∧ (4 : Int) = y2 ∧ True) else (True ∧ (((True, backL h (h).length)).1 ∧ Λ1 0))))))
def cWho_1 (Λ1 : Nat → Prop) (p : (List Lin)) (h : (List (List Edt))) (line : Int) (y0 : Int) (y1 : Bool) (y2 : Int)  (k_1 : Nat) : Prop :=
  (∀ e1 : (Int × (List Edt) × Unit), (((True, backL h (h).length)).2)[k_1]? = some e1 → ((∀ r' ∈ e1.2.1, (fun (xx : (Edt × Unit)) => True, fun (xx : (Edt × Unit)) => (xx.1.1 == line, ())).1 (r', ())) ∧ (if (e1.2.1.any (fun r' => ((fun (xx : (Edt × Unit)) => True, fun (xx : (Edt × Unit)) => (xx.1.1 == line, ())).2 (r', ())).1)) = true then (e1.1 = y0 ∧ true = y1 ∧ (0 : Int) = y2 ∧ True) else Λ1 (k_1 + 1)))) ∧ (List.length (((True, backL h (h).length)).2) ≤ k_1 → ((0 : Int) = y0 ∧ false = y1 ∧ (0 : Int) = y2 ∧ True))
theorem cWho_law (h : ∀ (p : (List Lin)) (h : (List (List Edt))) (line : Int), cWho.A.wf (p, h, line, ()) → ∀ (Λ1 : Nat → Prop), (∀ (k_1 : Nat), cWho_1 Λ1 p h line (whoN p h line) (whoB p h line) (whoE p h line) k_1 → Λ1 k_1) → cWho_0 Λ1 p h line (whoN p h line) (whoB p h line) (whoE p h line)) : ConOK Go.Proofs.Try.prog 34 cWho := by
  refine lawX (X := { subs := [], frz := [5], U := [], mul := [], nst := [], nls := [], itf := none }) (hX := xok0 _) (Γ := [(79, cBack), (75, cContE), (32, cVal7), (80, cWho1), (71, cWithin7)]) (Θ := Th) (n := 32) [([1, 1, 1, 0, 1, 0], ⟨[(5, false), (6, true), (7, true), (8, true)], [(6, true), (7, true), (8, true), (4000000, true)]⟩)] ⟨cBack_ok, cContE_ok, cVal7_ok, cWho1_ok, cWithin7_ok, trivial⟩ (by kernel_rfl) th_ok mix_ok Go.Proofs.Try.func34 (by kernel_rfl) ?_
  intro x hw hp Λ hC
  have h0 := h x.1 x.2.1 x.2.2.1 hw (fun k_1 => Λ [1, 1, 1, 0, 1, 0] ([(5, .ept false .int x.2.2.1), (6, .ptr 6 0 []), (7, .ptr 7 0 []), (8, .ptr 8 0 [])], [(6, .box true .int 0), (7, .box true .bool false), (8, .box true .int 0), (4000000, .rg false (.cons .int (.cons (.sl tEd) .nil)) (((True, backL x.2.1 (x.2.1).length)).2) k_1)])) (fun k_1 hb => hC [1, 1, 1, 0, 1, 0] ([(5, .ept false .int x.2.2.1), (6, .ptr 6 0 []), (7, .ptr 7 0 []), (8, .ptr 8 0 [])], [(6, .box true .int 0), (7, .box true .bool false), (8, .box true .int 0), (4000000, .rg false (.cons .int (.cons (.sl tEd) .nil)) (((True, backL x.2.1 (x.2.1).length)).2) k_1)]) (Eq.mpr (by kernel_rfl) hb))
  exact Eq.mpr (by kernel_rfl) h0
theorem cWho_ok : ConOK Go.Proofs.Try.prog 34 cWho := by
  refine cWho_law ?_
  intro p h line hw Λ1 h1
  unfold cWho_0
  refine ⟨trivial, ?_⟩
  by_cases e : err7 p h = 0
  · rw [if_neg (by simp [e])]
    obtain ⟨e1, e2, e3, e4⟩ := err7_ok e
    have p8 := (validP_ok e1).1
    refine ⟨by unfold inI; omega, trivial, ?_⟩
    by_cases w : within line 0 ((p.length : Int) - 1) = true
    · rw [if_neg (by simp [w])]
      have ok : okL7 p h line := ⟨e, w⟩
      refine ⟨trivial, trivial, ?_⟩
      refine upto (n := h.length) (Q := fun k => lastT h line h.length = lastT h line (h.length - k) → Λ1 k) ?_ ?_ 0 (Nat.zero_le _) rfl
      · intro ha
        rw [Nat.sub_self] at ha
        apply h1; unfold cWho_1
        refine ⟨fun e1 he => ?_, fun _ => ?_⟩
        · rw [List.getElem?_eq_none (by rw [backL_len]; exact Nat.le_refl _)] at he; cases he
        · unfold whoN whoB
          rw [if_pos ok, if_pos ok, ha, whoE_iff.2 ok]
          exact ⟨rfl, rfl, rfl, trivial⟩
      · intro k hk ih ha
        apply h1; unfold cWho_1
        refine ⟨fun e1 he => ⟨fun _ _ => trivial, ?_⟩, fun hl => ?_⟩
        · rw [backL_get h _ k hk] at he
          cases he
          show if touL (h.getD (h.length - 1 - k) []) line = true then _ else _
          have hs : lastT h line (h.length - k) = if touL (h.getD (h.length - 1 - k) []) line = true then some (h.length - 1 - k) else lastT h line (h.length - 1 - k) := by
            rw [show h.length - k = (h.length - 1 - k) + 1 by omega]; rfl
          rw [hs] at ha
          by_cases c : touL (h.getD (h.length - 1 - k) []) line = true
          · rw [if_pos c] at ha ⊢
            unfold whoN whoB
            rw [if_pos ok, if_pos ok, ha, whoE_iff.2 ok]
            exact ⟨rfl, rfl, rfl, trivial⟩
          · rw [if_neg c] at ha ⊢
            exact ih (by rw [show h.length - (k + 1) = h.length - 1 - k by omega]; exact ha)
        · rw [backL_len] at hl; omega
    · have no : ¬ okL7 p h line := fun q => w q.2
      rw [if_pos (by simpa using w)]
      unfold whoN whoB whoE
      rw [if_neg no, if_neg no, if_pos e, if_neg w]
      exact ⟨rfl, rfl, rfl, trivial⟩
  · have no : ¬ okL7 p h line := fun q => e q.1
    rw [if_pos (by simpa using e)]
    unfold whoN whoB whoE
    rw [if_neg no, if_neg no, if_neg e]
    exact ⟨rfl, rfl, rfl, trivial⟩
abbrev cWhoR : Con := { A := (.cons (.sl tL) (.cons (.sl (.sl tEd)) (.cons .int .nil))), R := (.cons .int (.cons .bool (.cons .int .nil))), pre := fun x => True, F := fun x => (whoN x.1 x.2.1 x.2.2.1, whoB x.1 x.2.1 x.2.2.1, whoE x.1 x.2.1 x.2.2.1, ()) }
def cWhoR_0 (Λ1 : Int → Prop) (p : (List Lin)) (h : (List (List Edt))) (line : Int) (y0 : Int) (y1 : Bool) (y2 : Int) : Prop :=
  True ∧ (if ((err7 p h) != (0 : Int)) = true then ((0 : Int) = y0 ∧ false = y1 ∧ (err7 p h) = y2 ∧ True) else (if (decide (line < (0 : Int))) = true then (true = true ∧ ((0 : Int) = y0 ∧ false = y1 ∧ (4 : Int) = y2 ∧ True)) else (True ∧ (if (bif false then true else (decide (line ≥ (List.length p : Int)))) = true then ((0 : Int) = y0 ∧ false = y1 ∧ (4 : Int) = y2 ∧ True) else (inI ((List.length h : Int) - (1 : Int)) ∧ Λ1 ((List.length h : Int) - (1 : Int)))))))
def cWhoR_1 (Λ1 : Int → Prop) (p : (List Lin)) (h : (List (List Edt))) (line : Int) (y0 : Int) (y1 : Bool) (y2 : Int)  (n_1 : Int) : Prop :=
  if (decide (n_1 ≥ (0 : Int))) = true then (idx n_1 (List.length h : Int) ∧ (True ∧ (if ((List.getD h (Int.toNat n_1) ([] : List Edt)).any fun a' => [(line, tL.dflt, ())].any fun b' => a'.1 == b'.1) = true then (n_1 = y0 ∧ true = y1 ∧ (0 : Int) = y2 ∧ True) else (inI (n_1 - (1 : Int)) ∧ Λ1 (n_1 - (1 : Int)))))) else ((0 : Int) = y0 ∧ false = y1 ∧ (0 : Int) = y2 ∧ True)
theorem cWhoR_law (h : ∀ (p : (List Lin)) (h : (List (List Edt))) (line : Int), cWhoR.A.wf (p, h, line, ()) → ∀ (Λ1 : Int → Prop), (∀ (n_1 : Int), cWhoR_1 Λ1 p h line (whoN p h line) (whoB p h line) (whoE p h line) n_1 → Λ1 n_1) → cWhoR_0 Λ1 p h line (whoN p h line) (whoB p h line) (whoE p h line)) : ConOK Go.Proofs.Try.prog 35 cWhoR := by
  refine lawL (Γ := [(69, cTouchR7), (33, cVal7R)]) (Θ := Th) (n := 41) [([1, 1, 1, 1, 0, 1, 0], ⟨[(1, false), (2, false), (10, true)], []⟩)] ⟨cTouchR7_ok, cVal7R_ok, trivial⟩ (by kernel_rfl) th_ok mix_ok Go.Proofs.Try.func35 (by kernel_rfl) ?_
  intro x hw hp Λ hC
  have h0 := h x.1 x.2.1 x.2.2.1 hw (fun n_1 => Λ [1, 1, 1, 1, 0, 1, 0] ([(1, .d false (.sl (.sl tEd)) x.2.1), (2, .d false .int x.2.2.1), (10, .d true .int n_1)], [])) (fun n_1 hb => hC [1, 1, 1, 1, 0, 1, 0] ([(1, .d false (.sl (.sl tEd)) x.2.1), (2, .d false .int x.2.2.1), (10, .d true .int n_1)], []) (Eq.mpr (by kernel_rfl) hb))
  exact Eq.mpr (by kernel_rfl) h0
theorem cWhoR_ok : ConOK Go.Proofs.Try.prog 35 cWhoR := by
  refine cWhoR_law ?_
  intro p h line hw Λ1 h1
  unfold cWhoR_0
  refine ⟨trivial, ?_⟩
  by_cases e : err7 p h = 0
  · rw [if_neg (by simp [e])]
    obtain ⟨e1, e2, e3, e4⟩ := err7_ok e
    have p8 := (validP_ok e1).1
    have bad : ¬ within line 0 ((p.length : Int) - 1) = true → ((0 : Int) = whoN p h line ∧ false = whoB p h line ∧ (4 : Int) = whoE p h line ∧ True) := by
      intro w
      have no : ¬ okL7 p h line := fun q => w q.2
      unfold whoN whoB whoE
      rw [if_neg no, if_neg no, if_pos e, if_neg w]
      exact ⟨rfl, rfl, rfl, trivial⟩
    by_cases a1 : line < 0
    · rw [if_pos (by simpa using a1)]
      exact ⟨rfl, bad (by rw [within_iff]; omega)⟩
    rw [if_neg (by simpa using a1)]
    refine ⟨trivial, ?_⟩
    by_cases a2 : line ≥ (p.length : Int)
    · rw [if_pos (by simpa using a2)]
      exact bad (by rw [within_iff]; omega)
    rw [if_neg (by simpa using a2)]
    have ok : okL7 p h line := ⟨e, within_iff.2 ⟨by omega, by omega⟩⟩
    refine ⟨by unfold inI; omega, ?_⟩
    have key := upto (n := h.length) (Q := fun k => lastT h line h.length = lastT h line (h.length - k) → Λ1 ((h.length : Int) - 1 - k)) ?_ ?_ 0 (Nat.zero_le _) rfl
    · simpa using key
    · intro ha
      rw [Nat.sub_self] at ha
      apply h1; unfold cWhoR_1
      rw [if_neg (by rw [decide_eq_true_eq]; omega)]
      unfold whoN whoB
      rw [if_pos ok, if_pos ok, ha, whoE_iff.2 ok]
      exact ⟨rfl, rfl, rfl, trivial⟩
    · intro k hk ih ha
      apply h1; unfold cWhoR_1
      rw [if_pos (by rw [decide_eq_true_eq]; omega)]
      have e9 : ((h.length : Int) - 1 - k).toNat = h.length - 1 - k := by omega
      rw [e9]
      have ht : ((List.getD h (h.length - 1 - k) []).any fun a' => [(line, tL.dflt, ())].any fun b' => a'.1 == b'.1) = touL (h.getD (h.length - 1 - k) []) line := by
        unfold touL
        congr 1; funext a; simp
      refine ⟨⟨by omega, by omega⟩, trivial, ?_⟩
      rw [show ([(line, tL.dflt, ())] : List Edt) = [(line, tL.dflt, ())] from rfl, ht]
      have hs : lastT h line (h.length - k) = if touL (h.getD (h.length - 1 - k) []) line = true then some (h.length - 1 - k) else lastT h line (h.length - 1 - k) := by
        rw [show h.length - k = (h.length - 1 - k) + 1 by omega]; rfl
      rw [hs] at ha
      by_cases c : touL (h.getD (h.length - 1 - k) []) line = true
      · rw [if_pos c] at ha ⊢
        unfold whoN whoB
        rw [if_pos ok, if_pos ok, ha, whoE_iff.2 ok]
        exact ⟨by show _ = ((h.length - 1 - k : Nat) : Int); omega, rfl, rfl, trivial⟩
      · rw [if_neg c] at ha ⊢
        refine ⟨by unfold inI; omega, ?_⟩
        rw [show ((h.length : Int) - 1 - k - 1) = (h.length : Int) - 1 - ((k + 1 : Nat) : Int) by omega]
        exact ih (by rw [show h.length - (k + 1) = h.length - 1 - k by omega]; exact ha)
  · have no : ¬ okL7 p h line := fun q => e q.1
    rw [if_pos (by simpa using e)]
    unfold whoN whoB whoE
    rw [if_neg no, if_neg no, if_neg e]
    exact ⟨rfl, rfl, rfl, trivial⟩
abbrev cStoryWhos : Con := { A := (.cons (.sl tL) (.cons (.sl (.sl tEd)) (.cons .int .nil))), R := (.cons .bool .nil), pre := fun x => True, F := fun x => (true, ()) }
def cStoryWhos_0 (Λ1 : Int → Lin → Prop) (p : (List Lin)) (h : (List (List Edt))) (line : Int) (y0 : Bool) : Prop :=
  True ∧ (if (decide (∃ x' ∈ h, 50 < x'.length) || decide (100 < p.length) || decide (50 < h.length)) = true then (True ∧ (true = y0 ∧ True)) else (True ∧ (True ∧ (if ((whoN p h line) != (whoN p h line)) = true then (true = true ∧ (true = true ∧ (false = y0 ∧ True))) else (True ∧ (if (bif false then true else (!((whoB p h line) == (whoB p h line)))) = true then (true = true ∧ (false = y0 ∧ True)) else (True ∧ (if (bif false then true else ((whoE p h line) != (whoE p h line))) = true then (false = y0 ∧ True) else (if ((whoE p h line) != (0 : Int)) = true then (True ∧ (true = y0 ∧ True)) else (True ∧ (if ((err7 p h) != (0 : Int)) = true then (true = true ∧ (true = true ∧ (true = true ∧ (false = y0 ∧ True)))) else (True ∧ (if (bif false then true else ((List.length ((if err7 p h = 0 then playH p h else [])) : Int) != (List.length p : Int))) = true then (true = true ∧ (true = true ∧ (false = y0 ∧ True))) else (True ∧ (if (bif false then true else (decide (line < (0 : Int)))) = true then (true = true ∧ (false = y0 ∧ True)) else (True ∧ (if (bif false then true else (decide (line ≥ (List.length p : Int)))) = true then (false = y0 ∧ True) else (idx line (List.length p : Int) ∧ Λ1 (0 : Int) (List.getD p (Int.toNat line) tL.dflt)))))))))))))))))))
def cStoryWhos_1 (Λ1 : Int → Lin → Prop) (p : (List Lin)) (h : (List (List Edt))) (line : Int) (y0 : Bool)  (i_1 : Int) (want_1 : Lin) : Prop :=
  if (whoB p h line) = true then (True ∧ (if (bif true then (decide ((whoN p h line) ≥ (0 : Int))) else false) = true then (True ∧ (if (bif true then (decide ((whoN p h line) < (List.length h : Int))) else false) = true then (idx (whoN p h line) (List.length h : Int) ∧ (True ∧ (if (bif true then (decide (i_1 < (List.length (List.getD h (Int.toNat (whoN p h line)) ([] : List Edt)) : Int))) else false) = true then (idx (whoN p h line) (List.length h : Int) ∧ (idx i_1 (List.length (List.getD h (Int.toNat (whoN p h line)) ([] : List Edt)) : Int) ∧ (if ((List.getD (List.getD h (Int.toNat (whoN p h line)) ([] : List Edt)) (Int.toNat i_1) tEd.dflt).1 == line) = true then (idx (whoN p h line) (List.length h : Int) ∧ (idx i_1 (List.length (List.getD h (Int.toNat (whoN p h line)) ([] : List Edt)) : Int) ∧ (inI (i_1 + (1 : Int)) ∧ Λ1 (i_1 + (1 : Int)) ((List.getD (List.getD h (Int.toNat (whoN p h line)) ([] : List Edt)) (Int.toNat i_1) tEd.dflt).2.1)))) else (inI (i_1 + (1 : Int)) ∧ Λ1 (i_1 + (1 : Int)) want_1)))) else (idx line (List.length ((if err7 p h = 0 then playH p h else [])) : Int) ∧ (if (T.eqB tL (List.getD ((if err7 p h = 0 then playH p h else [])) (Int.toNat line) tL.dflt) want_1) = true then (True ∧ (True ∧ ((bif true then true else false) = y0 ∧ True))) else (false = false ∧ (false = y0 ∧ True))))))) else (false = false ∧ (idx line (List.length ((if err7 p h = 0 then playH p h else [])) : Int) ∧ (if (T.eqB tL (List.getD ((if err7 p h = 0 then playH p h else [])) (Int.toNat line) tL.dflt) want_1) = true then (True ∧ (True ∧ ((bif true then true else false) = y0 ∧ True))) else (false = false ∧ (false = y0 ∧ True))))))) else (false = false ∧ (false = false ∧ (idx line (List.length ((if err7 p h = 0 then playH p h else [])) : Int) ∧ (if (T.eqB tL (List.getD ((if err7 p h = 0 then playH p h else [])) (Int.toNat line) tL.dflt) want_1) = true then (True ∧ (True ∧ ((bif true then true else false) = y0 ∧ True))) else (false = false ∧ (false = y0 ∧ True)))))))) else (false = false ∧ (false = false ∧ (false = false ∧ (idx line (List.length ((if err7 p h = 0 then playH p h else [])) : Int) ∧ (if (T.eqB tL (List.getD ((if err7 p h = 0 then playH p h else [])) (Int.toNat line) tL.dflt) want_1) = true then (True ∧ (True ∧ ((bif true then true else false) = y0 ∧ True))) else (false = false ∧ (false = y0 ∧ True)))))))
theorem cStoryWhos_law (h : ∀ (p : (List Lin)) (h : (List (List Edt))) (line : Int), cStoryWhos.A.wf (p, h, line, ()) → ∀ (Λ1 : Int → Lin → Prop), (∀ (i_1 : Int) (want_1 : Lin), cStoryWhos_1 Λ1 p h line true i_1 want_1 → Λ1 i_1 want_1) → cStoryWhos_0 Λ1 p h line true) : ConOK Go.Proofs.Try.prog 8 cStoryWhos := by
  refine lawL (Γ := [(15, cLong7), (24, cPlay), (16, cSane7), (34, cWho), (35, cWhoR)]) (Θ := Th) (n := 131) [([1, 1, 1, 1, 1, 1, 1, 1, 1, 0, 1, 0], ⟨[(1, false), (2, false), (7, true), (8, true), (13, true), (15, true), (16, true)], [(15, true), (56, true)]⟩)] ⟨cLong7_ok, cPlay_ok, cSane7_ok, cWho_ok, cWhoR_ok, trivial⟩ (by kernel_rfl) th_ok mix_ok Go.Proofs.Try.func8 (by kernel_rfl) ?_
  intro x hw hp Λ hC
  have h0 := h x.1 x.2.1 x.2.2.1 hw (fun i_1 want_1 => Λ [1, 1, 1, 1, 1, 1, 1, 1, 1, 0, 1, 0] ([(1, .d false (.sl (.sl tEd)) x.2.1), (2, .d false .int x.2.2.1), (7, .d true .int (whoN x.1 x.2.1 x.2.2.1)), (8, .d true .bool (whoB x.1 x.2.1 x.2.2.1)), (13, .own 56 0), (15, .ptr 15 0 []), (16, .d true .int i_1)], [(15, .box true tL want_1), (56, .sl true tL ((if err7 x.1 x.2.1 = 0 then playH x.1 x.2.1 else [])))])) (fun i_1 want_1 hb => hC [1, 1, 1, 1, 1, 1, 1, 1, 1, 0, 1, 0] ([(1, .d false (.sl (.sl tEd)) x.2.1), (2, .d false .int x.2.2.1), (7, .d true .int (whoN x.1 x.2.1 x.2.2.1)), (8, .d true .bool (whoB x.1 x.2.1 x.2.2.1)), (13, .own 56 0), (15, .ptr 15 0 []), (16, .d true .int i_1)], [(15, .box true tL want_1), (56, .sl true tL ((if err7 x.1 x.2.1 = 0 then playH x.1 x.2.1 else [])))]) (Eq.mpr (by kernel_rfl) hb))
  exact Eq.mpr (by kernel_rfl) h0
theorem cStoryWhos_ok : ConOK Go.Proofs.Try.prog 8 cStoryWhos := by
  refine cStoryWhos_law ?_
  intro p h line hw Λ1 h1
  unfold cStoryWhos_0
  refine ⟨trivial, ?_⟩
  split
  · exact ⟨trivial, rfl, trivial⟩
  refine ⟨trivial, trivial, ?_⟩
  rw [if_neg (by simp)]
  refine ⟨trivial, ?_⟩
  rw [if_neg (by simp)]
  refine ⟨trivial, ?_⟩
  rw [if_neg (by simp)]
  by_cases e : whoE p h line = 0
  · rw [if_neg (by simp [e])]
    have ok := whoE_iff.1 e
    obtain ⟨e1, e2, e3, e4⟩ := err7_ok ok.1
    have w := within_iff.1 ok.2
    obtain ⟨L, rfl⟩ := Int.eq_ofNat_of_zero_le w.1
    have hL : L < p.length := by omega
    refine ⟨trivial, ?_⟩
    rw [if_neg (by simp [ok.1])]
    refine ⟨trivial, ?_⟩
    rw [if_pos ok.1, if_neg (by simp [playH_len])]
    refine ⟨trivial, ?_⟩
    rw [if_neg (by simp <;> omega)]
    refine ⟨trivial, ?_⟩
    rw [if_neg (by simp <;> omega), Int.toNat_natCast]
    refine ⟨⟨by omega, by omega⟩, ?_⟩
    have hg := playH_get e3 hL h.length (Nat.le_refl _)
    rw [List.take_length] at hg
    have hN : whoN p h (L : Int) = natO (lastT h (L : Int) h.length) := if_pos ok
    have hB : whoB p h (L : Int) = (lastT h (L : Int) h.length).isSome := if_pos ok
    have il : idx (L : Int) ((playH p h).length : Int) := ⟨by omega, by rw [playH_len]; omega⟩
    have eqb : ∀ x : Lin, T.eqB tL x x = true := fun x => (eqB_iff (t := tL) (x := x) (y := x) rfl).2 rfl
    cases hT : lastT h (L : Int) h.length with
    | none =>
      rw [hT] at hg hB
      have hB : whoB p h (L : Int) = false := hB
      apply h1; unfold cStoryWhos_1
      rw [hB, if_neg (by simp), if_pos ok.1, Int.toNat_natCast, hg, if_pos (eqb _)]
      exact ⟨rfl, rfl, rfl, il, trivial, trivial, rfl, trivial⟩
    | some m =>
      rw [hT] at hg hB hN
      have hB : whoB p h (L : Int) = true := hB
      have hN : whoN p h (L : Int) = (m : Int) := hN
      have hm := (lastT_lt hT).1
      have hx4 : (h.getD m []).length ≤ 4 := e4 _ (mem_getD hm)
      refine upto (n := (h.getD m []).length) (Q := fun i => Λ1 (i : Int) (wantX ((h.getD m []).take i) L (p.getD L tL.dflt))) ?_ ?_ 0 (Nat.zero_le _)
      · apply h1; unfold cStoryWhos_1
        rw [hB, if_pos rfl, hN]
        refine ⟨trivial, ?_⟩
        rw [if_pos (by simp <;> omega)]
        refine ⟨trivial, ?_⟩
        rw [if_pos (by simp <;> omega), Int.toNat_natCast]
        refine ⟨⟨by omega, by omega⟩, trivial, ?_⟩
        rw [if_neg (by simp <;> omega), if_pos ok.1, Int.toNat_natCast, List.take_length, hg, if_pos (eqb _)]
        exact ⟨il, trivial, trivial, rfl, trivial⟩
      · intro i hi ih
        rw [wantX_take _ _ _ hi] at ih
        apply h1; unfold cStoryWhos_1
        rw [hB, if_pos rfl, hN]
        refine ⟨trivial, ?_⟩
        rw [if_pos (by simp <;> omega)]
        refine ⟨trivial, ?_⟩
        rw [if_pos (by simp <;> omega), Int.toNat_natCast]
        refine ⟨⟨by omega, by omega⟩, trivial, ?_⟩
        rw [if_pos (by rw [cond_true, decide_eq_true_eq]; omega), Int.toNat_natCast]
        refine ⟨⟨by omega, by omega⟩, idx_nat hi, ?_⟩
        by_cases c : ((h.getD m []).getD i tEd.dflt).1 = (L : Int)
        · rw [if_pos c] at ih
          rw [if_pos (by rw [beq_iff_eq]; exact c)]
          exact ⟨⟨by omega, by omega⟩, idx_nat hi, inI_succ hi (by omega), ih⟩
        · rw [if_neg c] at ih
          rw [if_neg (by rw [beq_iff_eq]; exact c)]
          exact ⟨inI_succ hi (by omega), ih⟩
  · rw [if_pos (by simpa using e)]
    exact ⟨trivial, rfl, trivial⟩
end Go.Tk
