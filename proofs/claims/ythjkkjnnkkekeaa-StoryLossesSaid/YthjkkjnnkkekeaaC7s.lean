import Derived.Test.YthjkkjnnkkekeaaC7
set_option linter.unusedSimpArgs false
set_option linter.unusedVariables false
set_option linter.unnecessarySimpa false
namespace Go.Tk
open Go Go.RowKit

def sP : List Lin := [(1, 0, 9, 0, ()), (1, 1, 9, 0, ())]
def sO : Edt := (0, (1, 0, 1, 0, ()), ())
def sT : Edt := (1, (1, 1, 2, 0, ()), ())
def sH : List (List Edt) := [[sO], [sT], [sO, sT]]
def touchB (h : List (List Edt)) (a b : Int) : Bool := (h.getD a.toNat []).any fun x => (h.getD b.toNat []).any fun y => x.1 == y.1
def dirTo (h : List (List Edt)) (n : Int) : Nat → List Int
  | 0 => []
  | k + 1 => dirTo h n k ++ if touchB h k n = true then [(k : Int)] else []

abbrev cTouch11 : Con := { A := (.cons tEd (.cons (.ref tEd) .nil)), R := (.cons .bool .nil), pre := fun x => True, F := fun x => ((x.2.1.1 == x.1.1), ()) }
def cTouch11_0  (y_ : Edt) (c0 : Edt) (y0 : Bool) : Prop :=
  (c0.1 == y_.1) = y0 ∧ True
theorem cTouch11_law (h : ∀ (y_ : Edt) (c0 : Edt), cTouch11.A.wf (y_, c0, ()) → cTouch11_0  y_ c0 (c0.1 == y_.1)) : ConOK Go.Proofs.Try.prog 112 cTouch11 := by
  refine lawL (Γ := []) (Θ := Th) (n := 9) [] trivial (by kernel_rfl) th_ok mix_ok Go.Proofs.Try.func112 (by kernel_rfl) ?_
  intro x hw hp Λ hC
  have h0 := h x.1 x.2.1 hw  
  exact Eq.mpr (by kernel_rfl) h0
theorem cTouch11_ok : ConOK Go.Proofs.Try.prog 112 cTouch11 := by
  refine cTouch11_law ?_
  intro y_ c0 hw
  unfold cTouch11_0
  exact ⟨rfl, trivial⟩
abbrev cTouch1 : Con := { A := (.cons tEd (.cons (.ref (.sl (.sl tEd))) (.cons (.ref .int) .nil))), R := (.cons .bool .nil), pre := fun x => 0 ≤ x.2.2.1 ∧ x.2.2.1 < (x.2.1.length : Int), F := fun x => ((List.getD x.2.1 (Int.toNat x.2.2.1) []).any (fun y' => x.1.1 == y'.1), ()) }
def cTouch1_0  (x : Edt) (c0 : (List (List Edt))) (c1 : Int) (y0 : Bool) : Prop :=
  idx c1 (List.length c0 : Int) ∧ ((∀ r' ∈ (List.getD c0 (Int.toNat c1) ([] : List Edt)), (fun (xx : (Edt × Unit)) => True, fun (xx : (Edt × Unit)) => ((x.1 == xx.1.1), ())).1 (r', ())) ∧ (((List.getD c0 (Int.toNat c1) ([] : List Edt)).any (fun r' => ((fun (xx : (Edt × Unit)) => True, fun (xx : (Edt × Unit)) => ((x.1 == xx.1.1), ())).2 (r', ())).1)) = y0 ∧ True))
theorem cTouch1_law (h : ∀ (x : Edt) (c0 : (List (List Edt))) (c1 : Int), cTouch1.A.wf (x, c0, c1, ()) → (0 ≤ c1 ∧ c1 < (c0.length : Int)) → cTouch1_0  x c0 c1 ((List.getD c0 (Int.toNat c1) []).any (fun y' => x.1 == y'.1))) : ConOK Go.Proofs.Try.prog 111 cTouch1 := by
  refine lawX (X := { subs := [], frz := [3], U := [], mul := [], nst := [], nls := [], itf := none, inp := [], arrs := [] }) (hX := xok0 _ trivial) (Γ := [(75, cContE), (112, cTouch11)]) (Θ := Th) (n := 11) [] ⟨cContE_ok, cTouch11_ok, trivial⟩ (by kernel_rfl) th_ok mix_ok Go.Proofs.Try.func111 (by kernel_rfl) ?_
  intro x hw hp Λ hC
  have h0 := h x.1 x.2.1 x.2.2.1 hw hp  
  exact Eq.mpr (by kernel_rfl) h0
theorem cTouch1_ok : ConOK Go.Proofs.Try.prog 111 cTouch1 := by
  refine cTouch1_law ?_
  intro x c0 c1 hw hp
  unfold cTouch1_0
  exact ⟨⟨hp.1, hp.2⟩, fun _ _ => trivial, rfl, trivial⟩
abbrev cTouch : Con := { A := (.cons (.sl (.sl tEd)) (.cons .int (.cons .int .nil))), R := (.cons .bool .nil), pre := fun x => 0 ≤ x.2.1 ∧ x.2.1 < (x.1.length : Int) ∧ 0 ≤ x.2.2.1 ∧ x.2.2.1 < (x.1.length : Int), F := fun x => (touchB x.1 x.2.1 x.2.2.1, ()) }
def cTouch_0  (h : (List (List Edt))) (a : Int) (b : Int) (y0 : Bool) : Prop :=
  idx a (List.length h : Int) ∧ ((∀ r' ∈ (List.getD h (Int.toNat a) ([] : List Edt)), (fun (xx : (Edt × Unit)) => 0 ≤ b ∧ b < (h.length : Int), fun (xx : (Edt × Unit)) => ((List.getD h (Int.toNat b) []).any (fun y' => xx.1.1 == y'.1), ())).1 (r', ())) ∧ (((List.getD h (Int.toNat a) ([] : List Edt)).any (fun r' => ((fun (xx : (Edt × Unit)) => 0 ≤ b ∧ b < (h.length : Int), fun (xx : (Edt × Unit)) => ((List.getD h (Int.toNat b) []).any (fun y' => xx.1.1 == y'.1), ())).2 (r', ())).1)) = y0 ∧ True))
theorem cTouch_law (h : ∀ (h : (List (List Edt))) (a : Int) (b : Int), cTouch.A.wf (h, a, b, ()) → (0 ≤ a ∧ a < (h.length : Int) ∧ 0 ≤ b ∧ b < (h.length : Int)) → cTouch_0  h a b (touchB h a b)) : ConOK Go.Proofs.Try.prog 96 cTouch := by
  refine lawX (X := { subs := [], frz := [3, 5], U := [], mul := [], nst := [], nls := [], itf := none, inp := [], arrs := [] }) (hX := xok0 _ trivial) (Γ := [(75, cContE), (111, cTouch1)]) (Θ := Th) (n := 13) [] ⟨cContE_ok, cTouch1_ok, trivial⟩ (by kernel_rfl) th_ok mix_ok Go.Proofs.Try.func96 (by kernel_rfl) ?_
  intro x hw hp Λ hC
  have h0 := h x.1 x.2.1 x.2.2.1 hw hp  
  exact Eq.mpr (by kernel_rfl) h0
theorem cTouch_ok : ConOK Go.Proofs.Try.prog 96 cTouch := by
  refine cTouch_law ?_
  intro h a b hw hp
  unfold cTouch_0
  obtain ⟨p1, p2, p3, p4⟩ := hp
  exact ⟨⟨p1, p2⟩, fun _ _ => ⟨p3, p4⟩, rfl, trivial⟩
abbrev cDirect0 : Con := { A := (.cons (.sl (.sl tEd)) (.cons .int .nil)), R := (.cons (.osl .int) .nil), pre := fun x => 0 ≤ x.2.1 ∧ x.2.1 < (x.1.length : Int) ∧ x.1.length ≤ 8, F := fun x => (dirTo x.1 x.2.1 (Int.toNat x.2.1), ()) }
def cDirect0_0 (Λ1 : Int → (List Int) → Prop) (h : (List (List Edt))) (n : Int) (y0 : (List Int)) : Prop :=
  Λ1 (0 : Int) ([] : List Int)
def cDirect0_1 (Λ1 : Int → (List Int) → Prop) (h : (List (List Edt))) (n : Int) (y0 : (List Int))  (t8_1 : Int) (out_1 : (List Int)) : Prop :=
  if (decide (t8_1 < n)) = true then ((0 ≤ t8_1 ∧ t8_1 < (h.length : Int) ∧ 0 ≤ n ∧ n < (h.length : Int)) ∧ (if (touchB h t8_1 n) = true then (List.length out_1 + List.length [t8_1] ≤ 4294967296 ∧ (inI (t8_1 + (1 : Int)) ∧ Λ1 (t8_1 + (1 : Int)) (out_1 ++ [t8_1]))) else (inI (t8_1 + (1 : Int)) ∧ Λ1 (t8_1 + (1 : Int)) out_1))) else out_1 = y0
theorem cDirect0_law (h : ∀ (h : (List (List Edt))) (n : Int), cDirect0.A.wf (h, n, ()) → (0 ≤ n ∧ n < (h.length : Int) ∧ h.length ≤ 8) → ∀ (Λ1 : Int → (List Int) → Prop), (∀ (t8_1 : Int) (out_1 : (List Int)), cDirect0_1 Λ1 h n (dirTo h n (Int.toNat n)) t8_1 out_1 → Λ1 t8_1 out_1) → cDirect0_0 Λ1 h n (dirTo h n (Int.toNat n))) : ConOK Go.Proofs.Try.prog 67 cDirect0 := by
  refine lawL (Γ := [(96, cTouch)]) (Θ := Th) (n := 21) [([1, 1, 0, 1, 0], ⟨[(0, false), (1, false), (5, true), (7, false), (8, true)], [(5, true)]⟩)] ⟨cTouch_ok, trivial⟩ (by kernel_rfl) th_ok mix_ok Go.Proofs.Try.func67 (by kernel_rfl) ?_
  intro x hw hp Λ hC
  have h0 := h x.1 x.2.1 hw hp (fun t8_1 out_1 => Λ [1, 1, 0, 1, 0] ([(0, .d false (.sl (.sl tEd)) x.1), (1, .d false .int x.2.1), (5, .own 5 0), (7, .d false .int x.2.1), (8, .d true .int t8_1)], [(5, .sl true .int out_1)])) (fun t8_1 out_1 hb => hC [1, 1, 0, 1, 0] ([(0, .d false (.sl (.sl tEd)) x.1), (1, .d false .int x.2.1), (5, .own 5 0), (7, .d false .int x.2.1), (8, .d true .int t8_1)], [(5, .sl true .int out_1)]) (Eq.mpr (by kernel_rfl) hb))
  exact Eq.mpr (by kernel_rfl) h0
theorem cDirect0_ok : ConOK Go.Proofs.Try.prog 67 cDirect0 := by
  refine cDirect0_law ?_
  intro h n hw hp Λ1 h1
  unfold cDirect0_0
  obtain ⟨p1, p2, p3⟩ := hp
  obtain ⟨N, rfl⟩ := Int.eq_ofNat_of_zero_le p1
  have hlen : ∀ i, (dirTo h (N : Int) i).length ≤ i := by
    intro i
    induction i with
    | zero => exact Nat.le_refl _
    | succ i ih => unfold dirTo; rw [List.length_append]; split <;> simp <;> omega
  refine upto (n := N) (Q := fun i => Λ1 (i : Int) (dirTo h (N : Int) i)) ?_ ?_ 0 (Nat.zero_le _)
  · apply h1; unfold cDirect0_1; rw [if_neg (by simp)]; rfl
  · intro i hi ih
    apply h1; unfold cDirect0_1; rw [if_pos (by simpa using hi)]
    have hle := hlen i
    rw [show dirTo h (N : Int) (i + 1) = dirTo h (N : Int) i ++ if touchB h i N = true then [(i : Int)] else [] from rfl] at ih
    refine ⟨⟨by omega, by omega, by omega, by omega⟩, ?_⟩
    by_cases g : touchB h i N = true
    · rw [if_pos g] at ih ⊢
      exact ⟨by simp only [List.length_cons, List.length_nil]; omega, inI_succ hi (by omega), ih⟩
    · rw [if_neg g, List.append_nil] at ih
      rw [if_neg g]
      exact ⟨inI_succ hi (by omega), ih⟩
abbrev cFree71 : Con := { A := (.cons .int (.cons (.ref .int) .nil)), R := (.cons .bool .nil), pre := fun x => 0 ≤ x.1 ∧ x.1 < 60, F := fun x => ((IntKind.i64.wrap (BitVec.ofInt 64 (Int.fdiv x.2.1 (2 ^ (Int.toNat x.1))) &&& BitVec.ofInt 64 (1 : Int)).toNat) == 0, ()) }
def cFree71_0  (k : Int) (c0 : Int) (y0 : Bool) : Prop :=
  (0 ≤ k ∧ k < 64) ∧ (True ∧ (((IntKind.i64.wrap (BitVec.ofInt 64 (Int.fdiv c0 (2 ^ (Int.toNat k))) &&& BitVec.ofInt 64 (1 : Int)).toNat) == (0 : Int)) = y0 ∧ True))
theorem cFree71_law (h : ∀ (k : Int) (c0 : Int), cFree71.A.wf (k, c0, ()) → (0 ≤ k ∧ k < 60) → cFree71_0  k c0 ((IntKind.i64.wrap (BitVec.ofInt 64 (Int.fdiv c0 (2 ^ (Int.toNat k))) &&& BitVec.ofInt 64 (1 : Int)).toNat) == 0)) : ConOK Go.Proofs.Try.prog 104 cFree71 := by
  refine lawL (Γ := []) (Θ := Th) (n := 9) [] trivial (by kernel_rfl) th_ok mix_ok Go.Proofs.Try.func104 (by kernel_rfl) ?_
  intro x hw hp Λ hC
  have h0 := h x.1 x.2.1 hw hp  
  exact Eq.mpr (by kernel_rfl) h0
theorem cFree71_ok : ConOK Go.Proofs.Try.prog 104 cFree71 := by
  refine cFree71_law ?_
  intro k c0 hw hp
  unfold cFree71_0
  exact ⟨⟨hp.1, by omega⟩, trivial, rfl, trivial⟩
abbrev cIndexN : Con := { A := (.cons (.sl .int) (.cons .int .nil)), R := (.cons .int .nil), pre := fun x => True, F := fun x => (idxF (fun r' => x.2.1 == r') x.1, ()) }
def cIndexN_0 (Λ1 : Int → Prop) (s : (List Int)) (v : Int) (y0 : Int) : Prop :=
  Λ1 (0 : Int)
def cIndexN_1 (Λ1 : Int → Prop) (s : (List Int)) (v : Int) (y0 : Int)  (t8_1 : Int) : Prop :=
  if (decide (t8_1 < (List.length s : Int))) = true then (idx t8_1 (List.length s : Int) ∧ (if (v == (List.getD s (Int.toNat t8_1) 0)) = true then (t8_1 = y0 ∧ True) else (inI (t8_1 + (1 : Int)) ∧ Λ1 (t8_1 + (1 : Int))))) else ((-1 : Int) = y0 ∧ True)
theorem cIndexN_law (h : ∀ (s : (List Int)) (v : Int), cIndexN.A.wf (s, v, ()) → ∀ (Λ1 : Int → Prop), (∀ (t8_1 : Int), cIndexN_1 Λ1 s v (idxF (fun r' => v == r') s) t8_1 → Λ1 t8_1) → cIndexN_0 Λ1 s v (idxF (fun r' => v == r') s)) : ConOK Go.Proofs.Try.prog 94 cIndexN := by
  refine lawL (Γ := []) (Θ := Th) (n := 19) [([1, 0, 1, 0], ⟨[(0, false), (1, false), (7, true), (8, true)], []⟩)] trivial (by kernel_rfl) th_ok mix_ok Go.Proofs.Try.func94 (by kernel_rfl) ?_
  intro x hw hp Λ hC
  have h0 := h x.1 x.2.1 hw (fun t8_1 => Λ [1, 0, 1, 0] ([(0, .d false (.sl .int) x.1), (1, .d false .int x.2.1), (7, .d true .int (List.length x.1 : Int)), (8, .d true .int t8_1)], [])) (fun t8_1 hb => hC [1, 0, 1, 0] ([(0, .d false (.sl .int) x.1), (1, .d false .int x.2.1), (7, .d true .int (List.length x.1 : Int)), (8, .d true .int t8_1)], []) (Eq.mpr (by kernel_rfl) hb))
  exact Eq.mpr (by kernel_rfl) h0
theorem cIndexN_ok : ConOK Go.Proofs.Try.prog 94 cIndexN := by
  refine cIndexN_law ?_
  intro s v hw Λ1 h1
  unfold cIndexN_0
  refine upto (n := s.length) (Q := fun i => (s.take i).any (fun r => v == r) = false → Λ1 i) ?_ ?_ 0 (Nat.zero_le _) rfl
  · intro ha
    rw [List.take_length] at ha
    apply h1; unfold cIndexN_1; rw [if_neg (by simp), idxF_none ha]
    exact ⟨rfl, trivial⟩
  · intro i hi ih ha
    apply h1; unfold cIndexN_1; rw [if_pos (by simpa using hi), Int.toNat_natCast]
    refine ⟨idx_nat hi, ?_⟩
    cases hv : (v == List.getD s i 0)
    · rw [if_neg (by simp)]
      exact ⟨inI_succ hi hw.1.1, ih (any_take_next (p := fun r => v == r) 0 hi ha hv)⟩
    · rw [if_pos (by rfl), idxF_at (p := fun r => v == r) 0 hi ha hv]
      exact ⟨rfl, trivial⟩
abbrev cContN : Con := { A := (.cons (.sl .int) (.cons .int .nil)), R := (.cons .bool .nil), pre := fun x => True, F := fun x => (decide (x.2.1 ∈ x.1), ()) }
def cContN_0  (s : (List Int)) (v : Int) (y0 : Bool) : Prop :=
  True ∧ ((decide ((idxF (fun r' => v == r') s) ≥ (0 : Int))) = y0 ∧ True)
theorem cContN_law (h : ∀ (s : (List Int)) (v : Int), cContN.A.wf (s, v, ()) → cContN_0  s v (decide (v ∈ s))) : ConOK Go.Proofs.Try.prog 63 cContN := by
  refine lawL (Γ := [(94, cIndexN)]) (Θ := Th) (n := 9) [] ⟨cIndexN_ok, trivial⟩ (by kernel_rfl) th_ok mix_ok Go.Proofs.Try.func63 (by kernel_rfl) ?_
  intro x hw hp Λ hC
  have h0 := h x.1 x.2.1 hw  
  exact Eq.mpr (by kernel_rfl) h0
theorem cContN_ok : ConOK Go.Proofs.Try.prog 63 cContN := by
  refine cContN_law ?_
  intro s v hw
  unfold cContN_0
  refine ⟨trivial, ?_, trivial⟩
  rw [idxF_any, Bool.eq_iff_iff]
  simp
abbrev cIndexI2 : Con := { A := (.cons (.sl .int) (.cons (.fn (.cons .int .nil) (.cons .bool .nil)) .nil)), R := (.cons .int .nil), pre := fun x => ∀ r' ∈ x.1, x.2.1.1 (r', ()), F := fun x => (idxF (fun r' => (x.2.1.2 (r', ())).1) x.1, ()) }
def cIndexI2_0 (Λ1 : Int → Prop) (s : (List Int)) (f : (T.fn (.cons .int .nil) (.cons .bool .nil)).den) (y0 : Int) : Prop :=
  Λ1 (0 : Int)
def cIndexI2_1 (Λ1 : Int → Prop) (s : (List Int)) (f : (T.fn (.cons .int .nil) (.cons .bool .nil)).den) (y0 : Int)  (t8_1 : Int) : Prop :=
  if (decide (t8_1 < (List.length s : Int))) = true then (idx t8_1 (List.length s : Int) ∧ (f.1 ((List.getD s (Int.toNat t8_1) 0), ()) ∧ (if ((f.2 ((List.getD s (Int.toNat t8_1) 0), ())).1) = true then (t8_1 = y0 ∧ True) else (inI (t8_1 + (1 : Int)) ∧ Λ1 (t8_1 + (1 : Int)))))) else ((-1 : Int) = y0 ∧ True)
theorem cIndexI2_law (h : ∀ (s : (List Int)) (f : (T.fn (.cons .int .nil) (.cons .bool .nil)).den), cIndexI2.A.wf (s, f, ()) → (∀ r' ∈ s, f.1 (r', ())) → ∀ (Λ1 : Int → Prop), (∀ (t8_1 : Int), cIndexI2_1 Λ1 s f (idxF (fun r' => (f.2 (r', ())).1) s) t8_1 → Λ1 t8_1) → cIndexI2_0 Λ1 s f (idxF (fun r' => (f.2 (r', ())).1) s)) : ConOK Go.Proofs.Try.prog 117 cIndexI2 := by
  refine lawL (Γ := []) (Θ := Th) (n := 19) [([1, 0, 1, 0], ⟨[(0, false), (1, false), (7, true), (8, true)], []⟩)] trivial (by kernel_rfl) th_ok mix_ok Go.Proofs.Try.func117 (by kernel_rfl) ?_
  intro x hw hp Λ hC
  have h0 := h x.1 x.2.1 hw hp (fun t8_1 => Λ [1, 0, 1, 0] ([(0, .d false (.sl .int) x.1), (1, .d false (.fn (.cons .int .nil) (.cons .bool .nil)) x.2.1), (7, .d true .int (List.length x.1 : Int)), (8, .d true .int t8_1)], [])) (fun t8_1 hb => hC [1, 0, 1, 0] ([(0, .d false (.sl .int) x.1), (1, .d false (.fn (.cons .int .nil) (.cons .bool .nil)) x.2.1), (7, .d true .int (List.length x.1 : Int)), (8, .d true .int t8_1)], []) (Eq.mpr (by kernel_rfl) hb))
  exact Eq.mpr (by kernel_rfl) h0
theorem cIndexI2_ok : ConOK Go.Proofs.Try.prog 117 cIndexI2 := by
  refine cIndexI2_law ?_
  intro s f hw hp Λ1 h1
  unfold cIndexI2_0
  refine upto (n := s.length) (Q := fun i => (s.take i).any (fun r => (f.2 (r, ())).1) = false → Λ1 i) ?_ ?_ 0 (Nat.zero_le _) rfl
  · intro ha
    rw [List.take_length] at ha
    apply h1; unfold cIndexI2_1; rw [if_neg (by simp), idxF_none ha]
    exact ⟨rfl, trivial⟩
  · intro i hi ih ha
    apply h1; unfold cIndexI2_1; rw [if_pos (by simpa using hi), Int.toNat_natCast]
    refine ⟨idx_nat hi, hp _ (mem_getD hi), ?_⟩
    cases hv : (f.2 (List.getD s i 0, ())).1
    · rw [if_neg (by simp)]
      exact ⟨inI_succ hi hw.1.1, ih (any_take_next (p := fun r => (f.2 (r, ())).1) 0 hi ha hv)⟩
    · rw [if_pos (by rfl), idxF_at (p := fun r => (f.2 (r, ())).1) 0 hi ha hv]
      exact ⟨rfl, trivial⟩
abbrev cContI2 : Con := { A := (.cons (.sl .int) (.cons (.fn (.cons .int .nil) (.cons .bool .nil)) .nil)), R := (.cons .bool .nil), pre := fun x => ∀ r' ∈ x.1, x.2.1.1 (r', ()), F := fun x => (x.1.any (fun r' => (x.2.1.2 (r', ())).1), ()) }
def cContI2_0  (s : (List Int)) (f : (T.fn (.cons .int .nil) (.cons .bool .nil)).den) (y0 : Bool) : Prop :=
  (∀ r' ∈ s, f.1 (r', ())) ∧ ((decide ((idxF (fun r' => (f.2 (r', ())).1) s) ≥ (0 : Int))) = y0 ∧ True)
theorem cContI2_law (h : ∀ (s : (List Int)) (f : (T.fn (.cons .int .nil) (.cons .bool .nil)).den), cContI2.A.wf (s, f, ()) → (∀ r' ∈ s, f.1 (r', ())) → cContI2_0  s f (s.any (fun r' => (f.2 (r', ())).1))) : ConOK Go.Proofs.Try.prog 103 cContI2 := by
  refine lawL (Γ := [(117, cIndexI2)]) (Θ := Th) (n := 9) [] ⟨cIndexI2_ok, trivial⟩ (by kernel_rfl) th_ok mix_ok Go.Proofs.Try.func103 (by kernel_rfl) ?_
  intro x hw hp Λ hC
  have h0 := h x.1 x.2.1 hw hp  
  exact Eq.mpr (by kernel_rfl) h0
theorem cContI2_ok : ConOK Go.Proofs.Try.prog 103 cContI2 := by
  refine cContI2_law ?_
  intro s f hw hp
  unfold cContI2_0
  exact ⟨hp, idxF_any _ _, trivial⟩
abbrev cFree7 : Con := { A := (.cons (.sl (.sl tEd)) (.cons .int (.cons .int .nil))), R := (.cons .bool .nil), pre := fun x => 0 ≤ x.2.2.1 ∧ x.2.2.1 < (x.1.length : Int) ∧ x.1.length ≤ 8, F := fun x => (((IntKind.i64.wrap (BitVec.ofInt 64 (Int.fdiv x.2.1 (2 ^ (Int.toNat x.2.2.1))) &&& BitVec.ofInt 64 (1 : Int)).toNat) == 0) && !((dirTo x.1 x.2.2.1 (Int.toNat x.2.2.1)).any fun k' => (IntKind.i64.wrap (BitVec.ofInt 64 (Int.fdiv x.2.1 (2 ^ (Int.toNat k'))) &&& BitVec.ofInt 64 (1 : Int)).toNat) == 0), ()) }
def cFree7_0  (h : (List (List Edt))) (done : Int) (n : Int) (y0 : Bool) : Prop :=
  (0 ≤ n ∧ n < 64) ∧ (True ∧ (if ((IntKind.i64.wrap (BitVec.ofInt 64 (Int.fdiv done (2 ^ (Int.toNat n))) &&& BitVec.ofInt 64 (1 : Int)).toNat) == (0 : Int)) = true then ((0 ≤ n ∧ n < (h.length : Int) ∧ h.length ≤ 8) ∧ ((∀ r' ∈ (dirTo h n (Int.toNat n)), (fun (xx : (Int × Unit)) => 0 ≤ xx.1 ∧ xx.1 < 60, fun (xx : (Int × Unit)) => ((IntKind.i64.wrap (BitVec.ofInt 64 (Int.fdiv done (2 ^ (Int.toNat xx.1))) &&& BitVec.ofInt 64 (1 : Int)).toNat) == 0, ())).1 (r', ())) ∧ (True ∧ ((bif true then (!((dirTo h n (Int.toNat n)).any (fun r' => ((fun (xx : (Int × Unit)) => 0 ≤ xx.1 ∧ xx.1 < 60, fun (xx : (Int × Unit)) => ((IntKind.i64.wrap (BitVec.ofInt 64 (Int.fdiv done (2 ^ (Int.toNat xx.1))) &&& BitVec.ofInt 64 (1 : Int)).toNat) == 0, ())).2 (r', ())).1))) else false) = y0 ∧ True)))) else (false = false ∧ (false = y0 ∧ True))))
theorem cFree7_law (h : ∀ (h : (List (List Edt))) (done : Int) (n : Int), cFree7.A.wf (h, done, n, ()) → (0 ≤ n ∧ n < (h.length : Int) ∧ h.length ≤ 8) → cFree7_0  h done n (((IntKind.i64.wrap (BitVec.ofInt 64 (Int.fdiv done (2 ^ (Int.toNat n))) &&& BitVec.ofInt 64 (1 : Int)).toNat) == 0) && !((dirTo h n (Int.toNat n)).any fun k' => (IntKind.i64.wrap (BitVec.ofInt 64 (Int.fdiv done (2 ^ (Int.toNat k'))) &&& BitVec.ofInt 64 (1 : Int)).toNat) == 0))) : ConOK Go.Proofs.Try.prog 83 cFree7 := by
  refine lawX (X := { subs := [], frz := [4], U := [], mul := [], nst := [], nls := [], itf := none, inp := [], arrs := [] }) (hX := xok0 _ trivial) (Γ := [(103, cContI2), (67, cDirect0), (104, cFree71)]) (Θ := Th) (n := 20) [] ⟨cContI2_ok, cDirect0_ok, cFree71_ok, trivial⟩ (by kernel_rfl) th_ok mix_ok Go.Proofs.Try.func83 (by kernel_rfl) ?_
  intro x hw hp Λ hC
  have h0 := h x.1 x.2.1 x.2.2.1 hw hp  
  exact Eq.mpr (by kernel_rfl) h0
theorem cFree7_ok : ConOK Go.Proofs.Try.prog 83 cFree7 := by
  refine cFree7_law ?_
  intro h done n hw hp
  unfold cFree7_0
  obtain ⟨p1, p2, p3⟩ := hp
  have hmem : ∀ i, ∀ k ∈ dirTo h n i, 0 ≤ k ∧ k < i := by
    intro i
    induction i with
    | zero => intro k hk; simp [dirTo] at hk
    | succ i ih =>
      intro k hk
      unfold dirTo at hk
      rcases List.mem_append.1 hk with g | g
      · have := ih k g; omega
      · split at g <;> simp at g
        omega
  refine ⟨⟨p1, by omega⟩, trivial, ?_⟩
  cases hb : ((IntKind.i64.wrap (BitVec.ofInt 64 (Int.fdiv done (2 ^ (Int.toNat n))) &&& BitVec.ofInt 64 (1 : Int)).toNat) == (0 : Int))
  · rw [if_neg (by simp)]
    exact ⟨rfl, by simp, trivial⟩
  · rw [if_pos (by rfl)]
    exact ⟨⟨p1, p2, p3⟩, fun k hk => by have := hmem _ k hk; exact ⟨this.1, by show k < 60; omega⟩, trivial, by simp, trivial⟩
def trueTo (L : List Bool) : Nat → List Int
  | 0 => []
  | i + 1 => trueTo L i ++ if L.getD i false = true then [(i : Int)] else []
theorem trueTo_len (L : List Bool) : ∀ i, (trueTo L i).length ≤ i
  | 0 => Nat.le_refl _
  | i + 1 => by
    unfold trueTo
    rw [List.length_append]
    have := trueTo_len L i
    split <;> simp <;> omega

abbrev cNeeds0 : Con := { A := (.cons (.sl (.sl tEd)) (.cons .int .nil)), R := (.cons (.osl .int) .nil), pre := fun x => x.1 = sH ∧ (x.2.1 = 0 ∨ x.2.1 = 1 ∨ x.2.1 = 2), F := fun x => ((if x.2.1 = 2 then [0, 1] else []), ()) }
def cNeeds0_0 (Λ1 : (List Bool) → (List Int) → Prop) (Λ2 : (List Bool) → Int → (List Int) → Prop) (h : (List (List Edt))) (n : Int) (y0 : (List Int)) : Prop :=
  mkLen (List.length h : Int) (List.length h : Int) ∧ ((0 ≤ n ∧ n < (h.length : Int) ∧ h.length ≤ 8) ∧ Λ1 (List.replicate (Int.toNat (List.length h : Int)) false) (dirTo h n (Int.toNat n)))
def cNeeds0_1 (Λ1 : (List Bool) → (List Int) → Prop) (Λ2 : (List Bool) → Int → (List Int) → Prop) (h : (List (List Edt))) (n : Int) (y0 : (List Int))  (there_1 : (List Bool)) (open_1 : (List Int)) : Prop :=
  if (decide ((List.length open_1 : Int) > (0 : Int))) = true then (idx (0 : Int) (List.length open_1 : Int) ∧ ((0 ≤ (1 : Int) ∧ (1 : Int) ≤ (List.length open_1 : Int) ∧ (List.length open_1 : Int) ≤ (List.length open_1 : Int) ∧ (List.length open_1 : Int) ≤ (List.length open_1 : Int)) ∧ (idx (List.getD open_1 (Int.toNat (0 : Int)) 0) (List.length there_1 : Int) ∧ (if (!(List.getD there_1 (Int.toNat (List.getD open_1 (Int.toNat (0 : Int)) 0)) false)) = true then (idx (List.getD open_1 (Int.toNat (0 : Int)) 0) (List.length there_1 : Int) ∧ ((0 ≤ (List.getD open_1 (Int.toNat (0 : Int)) 0) ∧ (List.getD open_1 (Int.toNat (0 : Int)) 0) < (h.length : Int) ∧ h.length ≤ 8) ∧ (List.length (List.drop (Int.toNat (1 : Int)) (List.take (Int.toNat (List.length open_1 : Int)) open_1)) + List.length (dirTo h (List.getD open_1 (Int.toNat (0 : Int)) 0) (Int.toNat (List.getD open_1 (Int.toNat (0 : Int)) 0))) ≤ 4294967296 ∧ Λ1 (List.set there_1 (Int.toNat (List.getD open_1 (Int.toNat (0 : Int)) 0)) true) ((List.drop (Int.toNat (1 : Int)) (List.take (Int.toNat (List.length open_1 : Int)) open_1)) ++ (dirTo h (List.getD open_1 (Int.toNat (0 : Int)) 0) (Int.toNat (List.getD open_1 (Int.toNat (0 : Int)) 0))))))) else Λ1 there_1 (List.drop (Int.toNat (1 : Int)) (List.take (Int.toNat (List.length open_1 : Int)) open_1)))))) else Λ2 there_1 (0 : Int) ([] : List Int)
def cNeeds0_2 (Λ1 : (List Bool) → (List Int) → Prop) (Λ2 : (List Bool) → Int → (List Int) → Prop) (h : (List (List Edt))) (n : Int) (y0 : (List Int)) (there_1 : (List Bool)) (t43_2 : Int) (out_2 : (List Int)) : Prop :=
  if (decide (t43_2 < (List.length there_1 : Int))) = true then (idx t43_2 (List.length there_1 : Int) ∧ (if (List.getD there_1 (Int.toNat t43_2) false) = true then (List.length out_2 + List.length [t43_2] ≤ 4294967296 ∧ (inI (t43_2 + (1 : Int)) ∧ Λ2 there_1 (t43_2 + (1 : Int)) (out_2 ++ [t43_2]))) else (inI (t43_2 + (1 : Int)) ∧ Λ2 there_1 (t43_2 + (1 : Int)) out_2))) else out_2 = y0
theorem cNeeds0_law (h : ∀ (h : (List (List Edt))) (n : Int), cNeeds0.A.wf (h, n, ()) → (h = sH ∧ (n = 0 ∨ n = 1 ∨ n = 2)) → ∀ (Λ1 : (List Bool) → (List Int) → Prop) (Λ2 : (List Bool) → Int → (List Int) → Prop), (∀ (there_1 : (List Bool)) (open_1 : (List Int)), cNeeds0_1 Λ1 Λ2 h n (if n = 2 then [0, 1] else []) there_1 open_1 → Λ1 there_1 open_1) → (∀ (there_1 : (List Bool)) (t43_2 : Int) (out_2 : (List Int)), cNeeds0_2 Λ1 Λ2 h n (if n = 2 then [0, 1] else []) there_1 t43_2 out_2 → Λ2 there_1 t43_2 out_2) → cNeeds0_0 Λ1 Λ2 h n (if n = 2 then [0, 1] else [])) : ConOK Go.Proofs.Try.prog 59 cNeeds0 := by
  refine lawL (Γ := [(67, cDirect0)]) (Θ := Th) (n := 55) [([1, 1, 1, 1, 0, 0], ⟨[(5, true), (6, true), (7, true)], [(16, true), (19, true)]⟩), ([1, 1, 1, 1, 1, 1, 0, 1, 0], ⟨[(9, true), (41, true), (42, true), (43, true)], [(9, true), (16, true)]⟩)] ⟨cDirect0_ok, trivial⟩ (by kernel_rfl) th_ok mix_ok Go.Proofs.Try.func59 (by kernel_rfl) ?_
  intro x hw hp Λ hC
  have h0 := h x.1 x.2.1 hw hp (fun there_1 open_1 => Λ [1, 1, 1, 1, 0, 0] ([(5, .bnd 67 (.cons (.sl (.sl tEd)) .nil) (x.1, ())), (6, .own 16 0), (7, .own 19 0)], [(16, .sl true .bool there_1), (19, .sl true .int open_1)])) (fun there_1 t43_2 out_2 => Λ [1, 1, 1, 1, 1, 1, 0, 1, 0] ([(9, .own 9 0), (41, .own 16 0), (42, .d true .int (List.length there_1 : Int)), (43, .d true .int t43_2)], [(9, .sl true .int out_2), (16, .sl true .bool there_1)])) (fun there_1 open_1 hb => hC [1, 1, 1, 1, 0, 0] ([(5, .bnd 67 (.cons (.sl (.sl tEd)) .nil) (x.1, ())), (6, .own 16 0), (7, .own 19 0)], [(16, .sl true .bool there_1), (19, .sl true .int open_1)]) (Eq.mpr (by kernel_rfl) hb)) (fun there_1 t43_2 out_2 hb => hC [1, 1, 1, 1, 1, 1, 0, 1, 0] ([(9, .own 9 0), (41, .own 16 0), (42, .d true .int (List.length there_1 : Int)), (43, .d true .int t43_2)], [(9, .sl true .int out_2), (16, .sl true .bool there_1)]) (Eq.mpr (by kernel_rfl) hb))
  exact Eq.mpr (by kernel_rfl) h0
theorem cNeeds0_ok : ConOK Go.Proofs.Try.prog 59 cNeeds0 := by
  refine cNeeds0_law ?_
  intro h n hw hp Λ1 Λ2 h1 h2
  unfold cNeeds0_0
  obtain ⟨rfl, hn⟩ := hp
  have e2 : ∀ L : List Bool, L.length = 3 → trueTo L 3 = (if n = 2 then [0, 1] else []) → Λ2 L 0 [] := by
    intro L hL hy
    refine upto (n := 3) (Q := fun i => Λ2 L (i : Int) (trueTo L i)) ?_ ?_ 0 (Nat.zero_le _)
    · apply h2; unfold cNeeds0_2; rw [if_neg (by rw [hL]; simp)]; exact hy
    · intro i hi ih
      have hle := trueTo_len L i
      rw [show trueTo L (i + 1) = trueTo L i ++ if L.getD i false = true then [(i : Int)] else [] from rfl] at ih
      apply h2; unfold cNeeds0_2; rw [if_pos (by rw [hL]; simp; omega), Int.toNat_natCast]
      refine ⟨⟨by omega, by omega⟩, ?_⟩
      by_cases g : L.getD i false = true
      · rw [if_pos g] at ih ⊢
        exact ⟨by simp only [List.length_cons, List.length_nil]; omega, inI_succ hi (by omega), ih⟩
      · rw [if_neg g, List.append_nil] at ih
        rw [if_neg g]
        exact ⟨inI_succ hi (by omega), ih⟩
  have e1 : ∀ L : List Bool, L.length = 3 → trueTo L 3 = (if n = 2 then [0, 1] else []) → Λ1 L [] := by
    intro L hL hy
    apply h1; unfold cNeeds0_1; rw [if_neg (by simp)]
    exact e2 L hL hy
  rcases hn with rfl | rfl | rfl
  · exact ⟨by unfold mkLen sH; simp, ⟨by decide, by decide, by decide⟩, e1 _ rfl (by decide +kernel)⟩
  · refine ⟨by unfold mkLen sH; simp, ⟨by decide, by decide, by decide⟩, ?_⟩
    have d : dirTo sH 1 (Int.toNat 1) = [] := by decide +kernel
    rw [d]
    exact e1 _ rfl (by decide +kernel)
  · refine ⟨by unfold mkLen sH; simp, ⟨by decide, by decide, by decide⟩, ?_⟩
    have d : dirTo sH 2 (Int.toNat 2) = [0, 1] := by decide +kernel
    have d0 : dirTo sH 0 (Int.toNat 0) = [] := rfl
    have d1 : dirTo sH 1 (Int.toNat 1) = [] := by decide +kernel
    rw [d]
    have s2 : Λ1 [true, false, false] [1] := by
      apply h1; unfold cNeeds0_1
      rw [if_pos (by decide)]
      refine ⟨⟨by decide, by decide⟩, ⟨by decide, by decide, by decide, by decide⟩, ⟨by decide, by decide⟩, ?_⟩
      rw [if_pos (by decide)]
      refine ⟨⟨by decide, by decide⟩, ⟨by decide, by decide, by decide⟩, ?_, ?_⟩
      · show _ + (dirTo sH 1 (Int.toNat 1)).length ≤ _
        rw [d1]; decide
      · show Λ1 [true, true, false] ([] ++ dirTo sH 1 (Int.toNat 1))
        rw [d1]
        exact e1 _ rfl (by decide +kernel)
    apply h1; unfold cNeeds0_1
    rw [if_pos (by decide)]
    refine ⟨⟨by decide, by decide⟩, ⟨by decide, by decide, by decide, by decide⟩, ⟨by decide, by decide⟩, ?_⟩
    rw [if_pos (by decide)]
    refine ⟨⟨by decide, by decide⟩, ⟨by decide, by decide, by decide⟩, ?_, ?_⟩
    · show _ + (dirTo sH 0 (Int.toNat 0)).length ≤ _
      rw [d0]; decide
    · show Λ1 [true, false, false] ([1] ++ dirTo sH 0 (Int.toNat 0))
      rw [d0]
      exact s2
abbrev cNeeded0 : Con := { A := (.cons (.sl (.sl tEd)) (.cons .int .nil)), R := (.cons (.osl .int) .nil), pre := fun x => x.1 = sH ∧ x.2.1 = 0, F := fun x => ([2], ()) }
def cNeeded0_0 (Λ1 : Int → (List Int) → Prop) (h : (List (List Edt))) (n : Int) (y0 : (List Int)) : Prop :=
  inI (n + (1 : Int)) ∧ Λ1 (n + (1 : Int)) ([] : List Int)
def cNeeded0_1 (Λ1 : Int → (List Int) → Prop) (h : (List (List Edt))) (n : Int) (y0 : (List Int))  (k_1 : Int) (out_1 : (List Int)) : Prop :=
  if (decide (k_1 < (List.length h : Int))) = true then ((h = sH ∧ (k_1 = 0 ∨ k_1 = 1 ∨ k_1 = 2)) ∧ (True ∧ (if (decide (n ∈ ((if k_1 = 2 then [0, 1] else [])))) = true then (List.length out_1 + List.length [k_1] ≤ 4294967296 ∧ (inI (k_1 + (1 : Int)) ∧ Λ1 (k_1 + (1 : Int)) (out_1 ++ [k_1]))) else (inI (k_1 + (1 : Int)) ∧ Λ1 (k_1 + (1 : Int)) out_1)))) else out_1 = y0
theorem cNeeded0_law (h : ∀ (h : (List (List Edt))) (n : Int), cNeeded0.A.wf (h, n, ()) → (h = sH ∧ n = 0) → ∀ (Λ1 : Int → (List Int) → Prop), (∀ (k_1 : Int) (out_1 : (List Int)), cNeeded0_1 Λ1 h n [2] k_1 out_1 → Λ1 k_1 out_1) → cNeeded0_0 Λ1 h n [2]) : ConOK Go.Proofs.Try.prog 60 cNeeded0 := by
  refine lawL (Γ := [(63, cContN), (59, cNeeds0)]) (Θ := Th) (n := 25) [([1, 1, 0, 1, 0], ⟨[(0, false), (1, false), (5, true), (6, true)], [(5, true)]⟩)] ⟨cContN_ok, cNeeds0_ok, trivial⟩ (by kernel_rfl) th_ok mix_ok Go.Proofs.Try.func60 (by kernel_rfl) ?_
  intro x hw hp Λ hC
  have h0 := h x.1 x.2.1 hw hp (fun k_1 out_1 => Λ [1, 1, 0, 1, 0] ([(0, .d false (.sl (.sl tEd)) x.1), (1, .d false .int x.2.1), (5, .own 5 0), (6, .d true .int k_1)], [(5, .sl true .int out_1)])) (fun k_1 out_1 hb => hC [1, 1, 0, 1, 0] ([(0, .d false (.sl (.sl tEd)) x.1), (1, .d false .int x.2.1), (5, .own 5 0), (6, .d true .int k_1)], [(5, .sl true .int out_1)]) (Eq.mpr (by kernel_rfl) hb))
  exact Eq.mpr (by kernel_rfl) h0
theorem cNeeded0_ok : ConOK Go.Proofs.Try.prog 60 cNeeded0 := by
  refine cNeeded0_law ?_
  intro h n hw hp Λ1 h1
  unfold cNeeded0_0
  obtain ⟨rfl, rfl⟩ := hp
  refine ⟨by unfold inI; decide, ?_⟩
  show Λ1 1 []
  have s3 : Λ1 3 [2] := by
    apply h1; unfold cNeeded0_1; rw [if_neg (by decide)]
  have s2 : Λ1 2 [] := by
    apply h1; unfold cNeeded0_1; rw [if_pos (by decide)]
    refine ⟨⟨rfl, by simp⟩, trivial, ?_⟩
    rw [if_pos (by decide)]
    exact ⟨by decide, by unfold inI; decide, s3⟩
  apply h1; unfold cNeeded0_1; rw [if_pos (by decide)]
  refine ⟨⟨rfl, by simp⟩, trivial, ?_⟩
  rw [if_neg (by decide)]
  exact ⟨by unfold inI; decide, s2⟩
abbrev cIsSet : Con := { A := (.cons (.sl .int) (.cons .int .nil)), R := (.cons .bool .nil), pre := fun x => x.1 = [0] ∧ x.2.1 = 3, F := fun x => (true, ()) }
def cIsSet_0 (Λ1 : Int → Prop) (l : (List Int)) (n : Int) (y0 : Bool) : Prop :=
  Λ1 (0 : Int)
def cIsSet_1 (Λ1 : Int → Prop) (l : (List Int)) (n : Int) (y0 : Bool)  (t9_1 : Int) : Prop :=
  if (decide (t9_1 < (List.length l : Int))) = true then (idx t9_1 (List.length l : Int) ∧ (inI (n - (1 : Int)) ∧ (True ∧ (if (!(within (List.getD l (Int.toNat t9_1) 0) (0 : Int) (n - (1 : Int)))) = true then (true = true ∧ (false = y0 ∧ True)) else (if (decide (t9_1 > (0 : Int))) = true then (inI (t9_1 - (1 : Int)) ∧ (idx (t9_1 - (1 : Int)) (List.length l : Int) ∧ (True ∧ (True ∧ (if (bif false then true else (bif true then (decide ((List.getD l (Int.toNat t9_1) 0) ≤ (List.getD l (Int.toNat (t9_1 - (1 : Int))) 0))) else false)) = true then (false = y0 ∧ True) else (inI (t9_1 + (1 : Int)) ∧ Λ1 (t9_1 + (1 : Int)))))))) else (false = false ∧ (True ∧ (if (bif false then true else false) = true then (false = y0 ∧ True) else (inI (t9_1 + (1 : Int)) ∧ Λ1 (t9_1 + (1 : Int))))))))))) else (true = y0 ∧ True)
theorem cIsSet_law (h : ∀ (l : (List Int)) (n : Int), cIsSet.A.wf (l, n, ()) → (l = [0] ∧ n = 3) → ∀ (Λ1 : Int → Prop), (∀ (t9_1 : Int), cIsSet_1 Λ1 l n true t9_1 → Λ1 t9_1) → cIsSet_0 Λ1 l n true) : ConOK Go.Proofs.Try.prog 61 cIsSet := by
  refine lawL (Γ := [(71, cWithin7)]) (Θ := Th) (n := 33) [([1, 0, 1, 0], ⟨[(0, false), (1, false), (7, false), (8, true), (9, true)], []⟩)] ⟨cWithin7_ok, trivial⟩ (by kernel_rfl) th_ok mix_ok Go.Proofs.Try.func61 (by kernel_rfl) ?_
  intro x hw hp Λ hC
  have h0 := h x.1 x.2.1 hw hp (fun t9_1 => Λ [1, 0, 1, 0] ([(0, .d false (.sl .int) x.1), (1, .d false .int x.2.1), (7, .d false (.sl .int) x.1), (8, .d true .int (List.length x.1 : Int)), (9, .d true .int t9_1)], [])) (fun t9_1 hb => hC [1, 0, 1, 0] ([(0, .d false (.sl .int) x.1), (1, .d false .int x.2.1), (7, .d false (.sl .int) x.1), (8, .d true .int (List.length x.1 : Int)), (9, .d true .int t9_1)], []) (Eq.mpr (by kernel_rfl) hb))
  exact Eq.mpr (by kernel_rfl) h0
theorem cIsSet_ok : ConOK Go.Proofs.Try.prog 61 cIsSet := by
  refine cIsSet_law ?_
  intro l n hw hp Λ1 h1
  unfold cIsSet_0
  obtain ⟨rfl, rfl⟩ := hp
  have s1 : Λ1 1 := by
    apply h1; unfold cIsSet_1; rw [if_neg (by decide)]; exact ⟨rfl, trivial⟩
  apply h1; unfold cIsSet_1; rw [if_pos (by decide)]
  refine ⟨⟨by decide, by decide⟩, by unfold inI; decide, trivial, ?_⟩
  rw [if_neg (by decide), if_neg (by decide)]
  refine ⟨rfl, trivial, ?_⟩
  rw [if_neg (by decide)]
  exact ⟨by unfold inI; decide, s1⟩
abbrev cCloneI : Con := { A := (.cons (.sl .int) .nil), R := (.cons (.osl .int) .nil), pre := fun x => x.1.length ≤ 1000000, F := fun x => (x.1, ()) }
def cCloneI_0  (s : (List Int)) (y0 : (List Int)) : Prop :=
  (s = [] → ([] : List Int) = y0) ∧ (True → (List.length ([] : List Int) + List.length s ≤ 4294967296 ∧ (([] : List Int) ++ s) = y0))
theorem cCloneI_law (h : ∀ (s : (List Int)), cCloneI.A.wf (s, ()) → (s.length ≤ 1000000) → cCloneI_0  s s) : ConOK Go.Proofs.Try.prog 62 cCloneI := by
  refine lawL (Γ := []) (Θ := Th) (n := 8) [] trivial (by kernel_rfl) th_ok mix_ok Go.Proofs.Try.func62 (by kernel_rfl) ?_
  intro x hw hp Λ hC
  have h0 := h x.1 hw hp  
  exact Eq.mpr (by kernel_rfl) h0
theorem cCloneI_ok : ConOK Go.Proofs.Try.prog 62 cCloneI := by
  refine cCloneI_law ?_
  intro s hw hp
  unfold cCloneI_0
  exact ⟨fun h => h.symm, fun _ => ⟨by simp only [List.length_nil]; omega, by simp⟩⟩
def frB (t k : Int) : Bool := ((IntKind.i64.wrap (BitVec.ofInt 64 (Int.fdiv t (2 ^ (Int.toNat k))) &&& BitVec.ofInt 64 (1 : Int)).toNat) == 0) && !((dirTo sH k (Int.toNat k)).any fun k' => (IntKind.i64.wrap (BitVec.ofInt 64 (Int.fdiv t (2 ^ (Int.toNat k'))) &&& BitVec.ofInt 64 (1 : Int)).toNat) == 0)
def orI (t k : Int) : Int := IntKind.i64.wrap (BitVec.ofInt 64 t ||| BitVec.ofInt 64 ((1 : Int) * 2 ^ (Int.toNat k))).toNat
def nxtW (t k : Int) (w : List Int) : List Int := if w.getD t.toNat 0 > 0 then (if frB t k = true then w.set (orI t k).toNat (w.getD (orI t k).toNat 0 + w.getD t.toNat 0) else w) else w
def wT : Nat → List Int
  | 0 => [1, 0, 0, 0, 0, 0, 0, 0]
  | t + 1 => nxtW t 2 (nxtW t 1 (nxtW t 0 (wT t)))
def wTK (t : Nat) : Nat → List Int
  | 0 => wT t
  | k + 1 => nxtW t k (wTK t k)
def okS (t k : Nat) : Bool := decide ((wTK t k).length = 8) && decide (0 ≤ orI t k) && decide (orI t k < 8) && decide (-1000 ≤ (wTK t k).getD (orI t k).toNat 0) && decide ((wTK t k).getD (orI t k).toNat 0 ≤ 1000) && decide (-1000 ≤ (wTK t k).getD t 0) && decide ((wTK t k).getD t 0 ≤ 1000)
theorem okS_all : ∀ t, t < 8 → ∀ k, k < 3 → okS t k = true := by decide +kernel

abbrev cCount7 : Con := { A := (.cons (.sl tL) (.cons (.sl (.sl tEd)) .nil)), R := (.cons .int (.cons .int .nil)), pre := fun x => x.1 = sP ∧ x.2.1 = sH, F := fun x => (2, 0, ()) }
def cCount7_0 (Λ1 : Int → (List Int) → Prop) (Λ2 : Int → Int → (List Int) → Prop) (p : (List Lin)) (h : (List (List Edt))) (y0 : Int) (y1 : Int) : Prop :=
  True ∧ (if ((err7 p h) != (0 : Int)) = true then ((0 : Int) = y0 ∧ (err7 p h) = y1 ∧ True) else ((0 ≤ (List.length h : Int) ∧ (List.length h : Int) < 64 ∧ inI ((1 : Int) * 2 ^ (Int.toNat (List.length h : Int)))) ∧ (mkLen ((1 : Int) * 2 ^ (Int.toNat (List.length h : Int))) ((1 : Int) * 2 ^ (Int.toNat (List.length h : Int))) ∧ (idx (0 : Int) (List.length (List.replicate (Int.toNat ((1 : Int) * 2 ^ (Int.toNat (List.length h : Int)))) (0 : Int)) : Int) ∧ Λ1 (0 : Int) (List.set (List.replicate (Int.toNat ((1 : Int) * 2 ^ (Int.toNat (List.length h : Int)))) (0 : Int)) (Int.toNat (0 : Int)) 1)))))
def cCount7_1 (Λ1 : Int → (List Int) → Prop) (Λ2 : Int → Int → (List Int) → Prop) (p : (List Lin)) (h : (List (List Edt))) (y0 : Int) (y1 : Int)  (t24_1 : Int) (ways_1 : (List Int)) : Prop :=
  if (decide (t24_1 < (List.length (List.set (List.replicate (Int.toNat ((1 : Int) * 2 ^ (Int.toNat (List.length h : Int)))) (0 : Int)) (Int.toNat (0 : Int)) 1) : Int))) = true then Λ2 t24_1 (0 : Int) ways_1 else (inI ((List.length ways_1 : Int) - (1 : Int)) ∧ (idx ((List.length ways_1 : Int) - (1 : Int)) (List.length ways_1 : Int) ∧ ((List.getD ways_1 (Int.toNat ((List.length ways_1 : Int) - (1 : Int))) 0) = y0 ∧ (0 : Int) = y1 ∧ True)))
def cCount7_2 (Λ1 : Int → (List Int) → Prop) (Λ2 : Int → Int → (List Int) → Prop) (p : (List Lin)) (h : (List (List Edt))) (y0 : Int) (y1 : Int) (t24_1 : Int) (t29_2 : Int) (ways_2 : (List Int)) : Prop :=
  if (decide (t29_2 < (List.length h : Int))) = true then (idx t24_1 (List.length ways_2 : Int) ∧ (if (decide ((List.getD ways_2 (Int.toNat t24_1) 0) > (0 : Int))) = true then ((0 ≤ t29_2 ∧ t29_2 < (h.length : Int) ∧ h.length ≤ 8) ∧ (True ∧ (if (bif true then (((IntKind.i64.wrap (BitVec.ofInt 64 (Int.fdiv t24_1 (2 ^ (Int.toNat t29_2))) &&& BitVec.ofInt 64 (1 : Int)).toNat) == 0) && !((dirTo h t29_2 (Int.toNat t29_2)).any fun k' => (IntKind.i64.wrap (BitVec.ofInt 64 (Int.fdiv t24_1 (2 ^ (Int.toNat k'))) &&& BitVec.ofInt 64 (1 : Int)).toNat) == 0)) else false) = true then ((0 ≤ t29_2 ∧ t29_2 < 64 ∧ inI ((1 : Int) * 2 ^ (Int.toNat t29_2))) ∧ (True ∧ (idx (IntKind.i64.wrap (BitVec.ofInt 64 t24_1 ||| BitVec.ofInt 64 ((1 : Int) * 2 ^ (Int.toNat t29_2))).toNat) (List.length ways_2 : Int) ∧ (idx t24_1 (List.length ways_2 : Int) ∧ (inI ((List.getD ways_2 (Int.toNat (IntKind.i64.wrap (BitVec.ofInt 64 t24_1 ||| BitVec.ofInt 64 ((1 : Int) * 2 ^ (Int.toNat t29_2))).toNat)) 0) + (List.getD ways_2 (Int.toNat t24_1) 0)) ∧ (idx (IntKind.i64.wrap (BitVec.ofInt 64 t24_1 ||| BitVec.ofInt 64 ((1 : Int) * 2 ^ (Int.toNat t29_2))).toNat) (List.length ways_2 : Int) ∧ (inI (t29_2 + (1 : Int)) ∧ Λ2 t24_1 (t29_2 + (1 : Int)) (List.set ways_2 (Int.toNat (IntKind.i64.wrap (BitVec.ofInt 64 t24_1 ||| BitVec.ofInt 64 ((1 : Int) * 2 ^ (Int.toNat t29_2))).toNat)) ((List.getD ways_2 (Int.toNat (IntKind.i64.wrap (BitVec.ofInt 64 t24_1 ||| BitVec.ofInt 64 ((1 : Int) * 2 ^ (Int.toNat t29_2))).toNat)) 0) + (List.getD ways_2 (Int.toNat t24_1) 0)))))))))) else (inI (t29_2 + (1 : Int)) ∧ Λ2 t24_1 (t29_2 + (1 : Int)) ways_2)))) else (false = false ∧ (inI (t29_2 + (1 : Int)) ∧ Λ2 t24_1 (t29_2 + (1 : Int)) ways_2)))) else (inI (t24_1 + (1 : Int)) ∧ Λ1 (t24_1 + (1 : Int)) ways_2)
theorem cCount7_law (h : ∀ (p : (List Lin)) (h : (List (List Edt))), cCount7.A.wf (p, h, ()) → (p = sP ∧ h = sH) → ∀ (Λ1 : Int → (List Int) → Prop) (Λ2 : Int → Int → (List Int) → Prop), (∀ (t24_1 : Int) (ways_1 : (List Int)), cCount7_1 Λ1 Λ2 p h 2 0 t24_1 ways_1 → Λ1 t24_1 ways_1) → (∀ (t24_1 : Int) (t29_2 : Int) (ways_2 : (List Int)), cCount7_2 Λ1 Λ2 p h 2 0 t24_1 t29_2 ways_2 → Λ2 t24_1 t29_2 ways_2) → cCount7_0 Λ1 Λ2 p h 2 0) : ConOK Go.Proofs.Try.prog 40 cCount7 := by
  refine lawL (Γ := [(83, cFree7), (32, cVal7)]) (Θ := Th) (n := 64) [([1, 1, 1, 1, 0, 1, 0], ⟨[(1, false), (7, true), (23, true), (24, true)], [(19, true)]⟩), ([1, 1, 1, 1, 0, 1, 0, 0, 1, 1, 0, 0, 1, 1, 0], ⟨[(1, false), (7, true), (8, true), (23, true), (24, true), (28, true), (29, true)], [(19, true)]⟩)] ⟨cFree7_ok, cVal7_ok, trivial⟩ (by kernel_rfl) th_ok mix_ok Go.Proofs.Try.func40 (by kernel_rfl) ?_
  intro x hw hp Λ hC
  have h0 := h x.1 x.2.1 hw hp (fun t24_1 ways_1 => Λ [1, 1, 1, 1, 0, 1, 0] ([(1, .d false (.sl (.sl tEd)) x.2.1), (7, .own 19 0), (23, .d true .int (List.length (List.set (List.replicate (Int.toNat ((1 : Int) * 2 ^ (Int.toNat (List.length x.2.1 : Int)))) (0 : Int)) (Int.toNat (0 : Int)) 1) : Int)), (24, .d true .int t24_1)], [(19, .sl true .int ways_1)])) (fun t24_1 t29_2 ways_2 => Λ [1, 1, 1, 1, 0, 1, 0, 0, 1, 1, 0, 0, 1, 1, 0] ([(1, .d false (.sl (.sl tEd)) x.2.1), (7, .own 19 0), (8, .d true .int t24_1), (23, .d true .int (List.length (List.set (List.replicate (Int.toNat ((1 : Int) * 2 ^ (Int.toNat (List.length x.2.1 : Int)))) (0 : Int)) (Int.toNat (0 : Int)) 1) : Int)), (24, .d true .int t24_1), (28, .d true .int (List.length x.2.1 : Int)), (29, .d true .int t29_2)], [(19, .sl true .int ways_2)])) (fun t24_1 ways_1 hb => hC [1, 1, 1, 1, 0, 1, 0] ([(1, .d false (.sl (.sl tEd)) x.2.1), (7, .own 19 0), (23, .d true .int (List.length (List.set (List.replicate (Int.toNat ((1 : Int) * 2 ^ (Int.toNat (List.length x.2.1 : Int)))) (0 : Int)) (Int.toNat (0 : Int)) 1) : Int)), (24, .d true .int t24_1)], [(19, .sl true .int ways_1)]) (Eq.mpr (by kernel_rfl) hb)) (fun t24_1 t29_2 ways_2 hb => hC [1, 1, 1, 1, 0, 1, 0, 0, 1, 1, 0, 0, 1, 1, 0] ([(1, .d false (.sl (.sl tEd)) x.2.1), (7, .own 19 0), (8, .d true .int t24_1), (23, .d true .int (List.length (List.set (List.replicate (Int.toNat ((1 : Int) * 2 ^ (Int.toNat (List.length x.2.1 : Int)))) (0 : Int)) (Int.toNat (0 : Int)) 1) : Int)), (24, .d true .int t24_1), (28, .d true .int (List.length x.2.1 : Int)), (29, .d true .int t29_2)], [(19, .sl true .int ways_2)]) (Eq.mpr (by kernel_rfl) hb))
  exact Eq.mpr (by kernel_rfl) h0
theorem cCount7_ok : ConOK Go.Proofs.Try.prog 40 cCount7 := by
  refine cCount7_law ?_
  intro p h hw hp Λ1 Λ2 h1 h2
  unfold cCount7_0
  obtain ⟨rfl, rfl⟩ := hp
  have he : err7 sP sH = 0 := by decide +kernel
  refine ⟨trivial, ?_⟩
  rw [if_neg (by rw [he]; simp)]
  refine ⟨⟨by decide, by decide, by unfold inI; decide⟩, ⟨by decide, by decide, rfl⟩, ⟨by decide, by decide⟩, ?_⟩
  show Λ1 ((0 : Nat) : Int) (wT 0)
  refine upto (n := 8) (Q := fun t => Λ1 (t : Int) (wT t)) ?_ ?_ 0 (Nat.zero_le _)
  · apply h1; unfold cCount7_1
    rw [if_neg (by decide)]
    have l8 : (wT 8).length = 8 := by decide +kernel
    have v8 : (wT 8).getD 7 0 = 2 := by decide +kernel
    rw [l8]
    exact ⟨by unfold inI; decide, ⟨by decide, by decide⟩, v8, rfl, trivial⟩
  · intro t ht ih
    apply h1; unfold cCount7_1
    rw [if_pos (by refine decide_eq_true ?_; show (t : Int) < ((8 : Nat) : Int); omega)]
    show Λ2 (t : Int) ((0 : Nat) : Int) (wTK t 0)
    refine upto (n := 3) (Q := fun k => Λ2 (t : Int) (k : Int) (wTK t k)) ?_ ?_ 0 (Nat.zero_le _)
    · apply h2; unfold cCount7_2
      rw [if_neg (by decide)]
      exact ⟨inI_succ ht (by omega), ih⟩
    · intro k hk ihk
      have ok := okS_all t ht k hk
      unfold okS at ok
      simp only [Bool.and_eq_true, decide_eq_true_eq] at ok
      obtain ⟨⟨⟨⟨⟨⟨o1, o2⟩, o3⟩, o4⟩, o5⟩, o6⟩, o7⟩ := ok
      rw [show wTK t (k + 1) = nxtW t k (wTK t k) from rfl] at ihk
      unfold nxtW at ihk
      rw [Int.toNat_natCast] at ihk
      apply h2; unfold cCount7_2
      rw [if_pos (by refine decide_eq_true ?_; show (k : Int) < ((3 : Nat) : Int); omega), Int.toNat_natCast]
      refine ⟨⟨by omega, by omega⟩, ?_⟩
      by_cases c1 : (wTK t k).getD t 0 > 0
      · rw [if_pos c1] at ihk
        rw [if_pos (by simpa using c1)]
        refine ⟨⟨by omega, by show (k : Int) < ((3 : Nat) : Int); omega, by decide⟩, trivial, ?_⟩
        show if frB t k = true then _ else _
        by_cases c2 : frB t k = true
        · rw [if_pos c2] at ihk ⊢
          have hp2 : inI ((1 : Int) * 2 ^ k) := by
            have c : k = 0 ∨ k = 1 ∨ k = 2 := by omega
            rcases c with rfl | rfl | rfl <;> (unfold inI; decide)
          refine ⟨⟨by omega, by omega, hp2⟩, trivial, ⟨o2, by show orI t k < _; omega⟩, ⟨by omega, by omega⟩, ?_, ⟨o2, by show orI t k < _; omega⟩, inI_succ hk (by omega), ihk⟩
          show inI ((wTK t k).getD (orI t k).toNat 0 + (wTK t k).getD t 0)
          unfold inI; omega
        · rw [if_neg c2] at ihk ⊢
          exact ⟨inI_succ hk (by omega), ihk⟩
      · rw [if_neg c1] at ihk
        rw [if_neg (by simpa using c1)]
        exact ⟨rfl, inI_succ hk (by omega), ihk⟩
abbrev cRevert7 : Con := { A := (.cons (.sl tL) (.cons (.sl (.sl tEd)) (.cons (.sl .int) .nil))), R := (.cons (.osl tL) (.cons (.sl .int) (.cons .int .nil))), pre := fun x => x.1 = sP ∧ x.2.1 = sH ∧ x.2.2.1 = [0], F := fun x => (playH sP [[sT]], [1], 0, ()) }
def cRevert7_0 (Λ1 : Int → (List Int) → Prop) (Λ2 : (List Int) → Int → (List Int) → (List (List Edt)) → Prop) (p : (List Lin)) (h : (List (List Edt))) (set_ : (List Int)) (y0 : (List Lin)) (y1 : (List Int)) (y2 : Int) : Prop :=
  True ∧ (if ((err7 p h) != (0 : Int)) = true then (([] : List Int) = y1 ∧ (err7 p h) = y2 ∧ ([] : List Lin) = y0) else ((set_ = [0] ∧ (List.length h : Int) = 3) ∧ (set_.length ≤ 1000000 ∧ Λ1 (0 : Int) set_)))
def cRevert7_1 (Λ1 : Int → (List Int) → Prop) (Λ2 : (List Int) → Int → (List Int) → (List (List Edt)) → Prop) (p : (List Lin)) (h : (List (List Edt))) (set_ : (List Int)) (y0 : (List Lin)) (y1 : (List Int)) (y2 : Int)  (t32_1 : Int) (gone_1 : (List Int)) : Prop :=
  if (decide (t32_1 < (List.length set_ : Int))) = true then (idx t32_1 (List.length set_ : Int) ∧ ((h = sH ∧ (List.getD set_ (Int.toNat t32_1) 0) = 0) ∧ (List.length gone_1 + List.length ([2]) ≤ 4294967296 ∧ (inI (t32_1 + (1 : Int)) ∧ Λ1 (t32_1 + (1 : Int)) (gone_1 ++ ([2])))))) else Λ2 gone_1 (0 : Int) ([] : List Int) ([] : List (List Edt))
def cRevert7_2 (Λ1 : Int → (List Int) → Prop) (Λ2 : (List Int) → Int → (List Int) → (List (List Edt)) → Prop) (p : (List Lin)) (h : (List (List Edt))) (set_ : (List Int)) (y0 : (List Lin)) (y1 : (List Int)) (y2 : Int) (gone_1 : (List Int)) (t44_2 : Int) (left_2 : (List Int)) (l_2 : (List (List Edt))) : Prop :=
  if (decide (t44_2 < (List.length h : Int))) = true then (idx t44_2 (List.length h : Int) ∧ (True ∧ (if (!(decide (t44_2 ∈ gone_1))) = true then (List.length left_2 + List.length [t44_2] ≤ 4294967296 ∧ (List.length l_2 + List.length ([(List.getD h (Int.toNat t44_2) ([] : List Edt))]) ≤ 4294967296 ∧ (inI (t44_2 + (1 : Int)) ∧ Λ2 gone_1 (t44_2 + (1 : Int)) (left_2 ++ [t44_2]) (l_2 ++ [(List.getD h (Int.toNat t44_2) ([] : List Edt))])))) else (inI (t44_2 + (1 : Int)) ∧ Λ2 gone_1 (t44_2 + (1 : Int)) left_2 l_2)))) else ((okH p.length l_2 ∧ p.length ≤ 8) ∧ (left_2 = y1 ∧ (0 : Int) = y2 ∧ (playH p l_2) = y0))
theorem cRevert7_law (h : ∀ (p : (List Lin)) (h : (List (List Edt))) (set_ : (List Int)), cRevert7.A.wf (p, h, set_, ()) → (p = sP ∧ h = sH ∧ set_ = [0]) → ∀ (Λ1 : Int → (List Int) → Prop) (Λ2 : (List Int) → Int → (List Int) → (List (List Edt)) → Prop), (∀ (t32_1 : Int) (gone_1 : (List Int)), cRevert7_1 Λ1 Λ2 p h set_ (playH sP [[sT]]) [1] 0 t32_1 gone_1 → Λ1 t32_1 gone_1) → (∀ (gone_1 : (List Int)) (t44_2 : Int) (left_2 : (List Int)) (l_2 : (List (List Edt))), cRevert7_2 Λ1 Λ2 p h set_ (playH sP [[sT]]) [1] 0 gone_1 t44_2 left_2 l_2 → Λ2 gone_1 t44_2 left_2 l_2) → cRevert7_0 Λ1 Λ2 p h set_ (playH sP [[sT]]) [1] 0) : ConOK Go.Proofs.Try.prog 20 cRevert7 := by
  refine lawL (Γ := [(62, cCloneI), (63, cContN), (61, cIsSet), (60, cNeeded0), (64, cPlay0), (32, cVal7)]) (Θ := Th) (n := 66) [([1, 1, 1, 1, 0, 1, 0], ⟨[(0, false), (1, false), (10, true), (30, false), (31, true), (32, true)], [(29, true)]⟩), ([1, 1, 1, 1, 1, 1, 1, 0, 1, 0], ⟨[(0, false), (10, true), (13, true), (14, true), (42, false), (43, true), (44, true)], [(13, true), (14, false), (29, true)]⟩)] ⟨cCloneI_ok, cContN_ok, cIsSet_ok, cNeeded0_ok, cPlay0_ok, cVal7_ok, trivial⟩ (by kernel_rfl) th_ok mix_ok Go.Proofs.Try.func20 (by kernel_rfl) ?_
  intro x hw hp Λ hC
  have h0 := h x.1 x.2.1 x.2.2.1 hw hp (fun t32_1 gone_1 => Λ [1, 1, 1, 1, 0, 1, 0] ([(0, .d false (.sl tL) x.1), (1, .d false (.sl (.sl tEd)) x.2.1), (10, .own 29 0), (30, .d false (.sl .int) x.2.2.1), (31, .d true .int (List.length x.2.2.1 : Int)), (32, .d true .int t32_1)], [(29, .sl true .int gone_1)])) (fun gone_1 t44_2 left_2 l_2 => Λ [1, 1, 1, 1, 1, 1, 1, 0, 1, 0] ([(0, .d false (.sl tL) x.1), (10, .own 29 0), (13, .own 13 0), (14, .own 14 0), (42, .d false (.sl (.sl tEd)) x.2.1), (43, .d true .int (List.length x.2.1 : Int)), (44, .d true .int t44_2)], [(13, .sl true .int left_2), (14, .sl false (.sl tEd) l_2), (29, .sl true .int gone_1)])) (fun t32_1 gone_1 hb => hC [1, 1, 1, 1, 0, 1, 0] ([(0, .d false (.sl tL) x.1), (1, .d false (.sl (.sl tEd)) x.2.1), (10, .own 29 0), (30, .d false (.sl .int) x.2.2.1), (31, .d true .int (List.length x.2.2.1 : Int)), (32, .d true .int t32_1)], [(29, .sl true .int gone_1)]) (Eq.mpr (by kernel_rfl) hb)) (fun gone_1 t44_2 left_2 l_2 hb => hC [1, 1, 1, 1, 1, 1, 1, 0, 1, 0] ([(0, .d false (.sl tL) x.1), (10, .own 29 0), (13, .own 13 0), (14, .own 14 0), (42, .d false (.sl (.sl tEd)) x.2.1), (43, .d true .int (List.length x.2.1 : Int)), (44, .d true .int t44_2)], [(13, .sl true .int left_2), (14, .sl false (.sl tEd) l_2), (29, .sl true .int gone_1)]) (Eq.mpr (by kernel_rfl) hb))
  exact Eq.mpr (by kernel_rfl) h0
theorem cRevert7_ok : ConOK Go.Proofs.Try.prog 20 cRevert7 := by
  refine cRevert7_law ?_
  intro p h set_ hw hp Λ1 Λ2 h1 h2
  unfold cRevert7_0
  obtain ⟨rfl, rfl, rfl⟩ := hp
  have he : err7 sP sH = 0 := by decide +kernel
  refine ⟨trivial, ?_⟩
  rw [if_neg (by rw [he]; simp)]
  refine ⟨⟨rfl, rfl⟩, ?_⟩
  refine ⟨by decide, ?_⟩
  have t3 : Λ2 [0, 2] 3 [1] [[sT]] := by
    apply h2; unfold cRevert7_2; rw [if_neg (by decide)]
    exact ⟨⟨fun x hx e he => by
      simp at hx; subst hx
      simp at he; subst he
      exact ⟨by decide, by decide⟩, by decide⟩, rfl, rfl, rfl⟩
  have t2 : Λ2 [0, 2] 2 [1] [[sT]] := by
    apply h2; unfold cRevert7_2; rw [if_pos (by decide)]
    refine ⟨⟨by decide, by decide⟩, trivial, ?_⟩
    rw [if_neg (by decide)]
    exact ⟨by unfold inI; decide, t3⟩
  have t1 : Λ2 [0, 2] 1 [] [] := by
    apply h2; unfold cRevert7_2; rw [if_pos (by decide)]
    refine ⟨⟨by decide, by decide⟩, trivial, ?_⟩
    rw [if_pos (by decide)]
    exact ⟨by decide, by decide, by unfold inI; decide, t2⟩
  have t0 : Λ2 [0, 2] 0 [] [] := by
    apply h2; unfold cRevert7_2; rw [if_pos (by decide)]
    refine ⟨⟨by decide, by decide⟩, trivial, ?_⟩
    rw [if_neg (by decide)]
    exact ⟨by unfold inI; decide, t1⟩
  have u1 : Λ1 1 [0, 2] := by
    apply h1; unfold cRevert7_1; rw [if_neg (by decide)]
    exact t0
  apply h1; unfold cRevert7_1; rw [if_pos (by decide)]
  exact ⟨⟨by decide, by decide⟩, ⟨rfl, by decide⟩, by decide, by unfold inI; decide, u1⟩
abbrev cNumb : Con := { A := (.cons (.sl tL) (.cons (.sl (.sl tEd)) (.cons .int .nil))), R := (.cons .int .nil), pre := fun x => x.1 = sP ∧ x.2.1 = sH ∧ x.2.2.1 = 2, F := fun x => (0, ()) }
def cNumb_0  (p : (List Lin)) (h : (List (List Edt))) (n : Int) (y0 : Int) : Prop :=
  True ∧ (if ((err7 p h) != (0 : Int)) = true then ((err7 p h) = y0 ∧ True) else (inI ((List.length h : Int) - (1 : Int)) ∧ (True ∧ (if (!(within n (0 : Int) ((List.length h : Int) - (1 : Int)))) = true then ((4 : Int) = y0 ∧ True) else ((0 : Int) = y0 ∧ True)))))
theorem cNumb_law (h : ∀ (p : (List Lin)) (h : (List (List Edt))) (n : Int), cNumb.A.wf (p, h, n, ()) → (p = sP ∧ h = sH ∧ n = 2) → cNumb_0  p h n 0) : ConOK Go.Proofs.Try.prog 58 cNumb := by
  refine lawL (Γ := [(32, cVal7), (71, cWithin7)]) (Θ := Th) (n := 20) [] ⟨cVal7_ok, cWithin7_ok, trivial⟩ (by kernel_rfl) th_ok mix_ok Go.Proofs.Try.func58 (by kernel_rfl) ?_
  intro x hw hp Λ hC
  have h0 := h x.1 x.2.1 x.2.2.1 hw hp  
  exact Eq.mpr (by kernel_rfl) h0
theorem cNumb_ok : ConOK Go.Proofs.Try.prog 58 cNumb := by
  refine cNumb_law ?_
  intro p h n hw hp
  unfold cNumb_0
  obtain ⟨rfl, rfl, rfl⟩ := hp
  have he : err7 sP sH = 0 := by decide +kernel
  refine ⟨trivial, ?_⟩
  rw [if_neg (by rw [he]; simp)]
  refine ⟨by unfold inI; decide, trivial, ?_⟩
  rw [if_neg (by decide)]
  exact ⟨rfl, trivial⟩
abbrev cNeeds7 : Con := { A := (.cons (.sl tL) (.cons (.sl (.sl tEd)) (.cons .int .nil))), R := (.cons (.sl .int) (.cons .int .nil)), pre := fun x => x.1 = sP ∧ x.2.1 = sH ∧ x.2.2.1 = 2, F := fun x => ([0, 1], 0, ()) }
def cNeeds7_0  (p : (List Lin)) (h : (List (List Edt))) (n : Int) (y0 : (List Int)) (y1 : Int) : Prop :=
  (p = sP ∧ h = sH ∧ n = 2) ∧ (if (0 != (0 : Int)) = true then (([] : List Int) = y0 ∧ 0 = y1 ∧ True) else ((h = sH ∧ (n = 0 ∨ n = 1 ∨ n = 2)) ∧ (((if n = 2 then [0, 1] else [])) = y0 ∧ (0 : Int) = y1 ∧ True)))
theorem cNeeds7_law (h : ∀ (p : (List Lin)) (h : (List (List Edt))) (n : Int), cNeeds7.A.wf (p, h, n, ()) → (p = sP ∧ h = sH ∧ n = 2) → cNeeds7_0  p h n [0, 1] 0) : ConOK Go.Proofs.Try.prog 17 cNeeds7 := by
  refine lawL (Γ := [(59, cNeeds0), (58, cNumb)]) (Θ := Th) (n := 19) [] ⟨cNeeds0_ok, cNumb_ok, trivial⟩ (by kernel_rfl) th_ok mix_ok Go.Proofs.Try.func17 (by kernel_rfl) ?_
  intro x hw hp Λ hC
  have h0 := h x.1 x.2.1 x.2.2.1 hw hp  
  exact Eq.mpr (by kernel_rfl) h0
theorem cNeeds7_ok : ConOK Go.Proofs.Try.prog 17 cNeeds7 := by
  refine cNeeds7_law ?_
  intro p h n hw hp
  unfold cNeeds7_0
  refine ⟨hp, ?_⟩
  obtain ⟨rfl, rfl, rfl⟩ := hp
  rw [if_neg (by decide)]
  exact ⟨⟨rfl, by simp⟩, rfl, rfl, trivial⟩
abbrev cSameInts4 : Con := { A := (.cons (.sl .int) (.cons (.sl .int) .nil)), R := (.cons .bool .nil), pre := fun x => x.1.length ≤ 1000000, F := fun x => (decide (x.1 = x.2.1), ()) }
def cSameInts4_0 (Λ1 : Int → Prop) (a : (List Int)) (b : (List Int)) (y0 : Bool) : Prop :=
  if ((List.length a : Int) != (List.length b : Int)) = true then (false = y0 ∧ True) else Λ1 (0 : Int)
def cSameInts4_1 (Λ1 : Int → Prop) (a : (List Int)) (b : (List Int)) (y0 : Bool)  (i_1 : Int) : Prop :=
  if (decide (i_1 < (List.length a : Int))) = true then (idx i_1 (List.length a : Int) ∧ (idx i_1 (List.length b : Int) ∧ (if ((List.getD a (Int.toNat i_1) 0) != (List.getD b (Int.toNat i_1) 0)) = true then (false = y0 ∧ True) else (inI (i_1 + (1 : Int)) ∧ Λ1 (i_1 + (1 : Int)))))) else (true = y0 ∧ True)
theorem cSameInts4_law (h : ∀ (a : (List Int)) (b : (List Int)), cSameInts4.A.wf (a, b, ()) → (a.length ≤ 1000000) → ∀ (Λ1 : Int → Prop), (∀ (i_1 : Int), cSameInts4_1 Λ1 a b (decide (a = b)) i_1 → Λ1 i_1) → cSameInts4_0 Λ1 a b (decide (a = b))) : ConOK Go.Proofs.Try.prog 23 cSameInts4 := by
  refine lawL (Γ := []) (Θ := Th) (n := 26) [([1, 1, 0, 1, 0], ⟨[(0, false), (1, false), (5, true)], []⟩)] trivial (by kernel_rfl) th_ok mix_ok Go.Proofs.Try.func23 (by kernel_rfl) ?_
  intro x hw hp Λ hC
  have h0 := h x.1 x.2.1 hw hp (fun i_1 => Λ [1, 1, 0, 1, 0] ([(0, .d false (.sl .int) x.1), (1, .d false (.sl .int) x.2.1), (5, .d true .int i_1)], [])) (fun i_1 hb => hC [1, 1, 0, 1, 0] ([(0, .d false (.sl .int) x.1), (1, .d false (.sl .int) x.2.1), (5, .d true .int i_1)], []) (Eq.mpr (by kernel_rfl) hb))
  exact Eq.mpr (by kernel_rfl) h0
theorem cSameInts4_ok : ConOK Go.Proofs.Try.prog 23 cSameInts4 := by
  refine cSameInts4_law ?_
  intro a b hw hp Λ1 h1
  unfold cSameInts4_0
  by_cases hl : a.length = b.length
  · rw [if_neg (by simp [hl])]
    refine upto (n := a.length) (Q := fun i => a.take i = b.take i → Λ1 i) ?_ ?_ 0 (Nat.zero_le _) rfl
    · intro ha
      rw [List.take_length, List.take_of_length_le (by omega)] at ha
      apply h1; unfold cSameInts4_1; rw [if_neg (by simp)]
      exact ⟨by simp [ha], trivial⟩
    · intro i hi ih ha
      apply h1; unfold cSameInts4_1; rw [if_pos (by simpa using hi), Int.toNat_natCast]
      refine ⟨idx_nat hi, idx_nat (by omega), ?_⟩
      by_cases hv : List.getD a i 0 = List.getD b i 0
      · rw [if_neg (by rw [hv]; simp)]
        exact ⟨inI_succ hi (by omega), ih (take_eq_next 0 hi hl ha hv)⟩
      · rw [if_pos (by simpa using hv)]
        exact ⟨by simp [ne_at 0 hv], trivial⟩
  · rw [if_pos (by simp; omega)]
    exact ⟨by simp; exact fun e => hl (by rw [e]), trivial⟩
abbrev cSane7 : Con := { A := .nil, R := (.cons .bool .nil), pre := fun x => True, F := fun x => (true, ()) }
def cSane7_0   (y0 : Bool) : Prop :=
  ([(1, 0, 9, 0, ()), (1, 1, 9, 0, ())] = sP ∧ ([[(0, (1, 0, 1, 0, ()), ())], [(1, (1, 1, 2, 0, ()), ())], [(0, (1, 0, 1, 0, ()), ()), (1, (1, 1, 2, 0, ()), ())]]) = sH) ∧ (([(1, 0, 9, 0, ()), (1, 1, 9, 0, ())] = sP ∧ ([[(0, (1, 0, 1, 0, ()), ())], [(1, (1, 1, 2, 0, ()), ())], [(0, (1, 0, 1, 0, ()), ()), (1, (1, 1, 2, 0, ()), ())]]) = sH ∧ [(0 : Int)] = [0]) ∧ (([(1, 0, 9, 0, ()), (1, 1, 9, 0, ())] = sP ∧ ([[(0, (1, 0, 1, 0, ()), ())], [(1, (1, 1, 2, 0, ()), ())], [(0, (1, 0, 1, 0, ()), ()), (1, (1, 1, 2, 0, ()), ())]]) = sH ∧ (2 : Int) = 2) ∧ (if (0 == (0 : Int)) = true then (True ∧ (if (bif true then (2 == (2 : Int)) else false) = true then (True ∧ (if (bif true then (0 == (0 : Int)) else false) = true then (([1]).length ≤ 1000000 ∧ (True ∧ (if (bif true then (decide (([1]) = [(1 : Int)])) else false) = true then (True ∧ (if (bif true then (0 == (0 : Int)) else false) = true then (([0, 1]).length ≤ 1000000 ∧ (True ∧ ((bif true then (decide (([0, 1]) = [(0 : Int), (1 : Int)])) else false) = y0 ∧ True))) else (false = false ∧ (false = y0 ∧ True)))) else (false = false ∧ (false = false ∧ (false = y0 ∧ True)))))) else (false = false ∧ (false = false ∧ (false = false ∧ (false = y0 ∧ True)))))) else (false = false ∧ (false = false ∧ (false = false ∧ (false = false ∧ (false = y0 ∧ True))))))) else (false = false ∧ (false = false ∧ (false = false ∧ (false = false ∧ (false = false ∧ (false = y0 ∧ True)))))))))
theorem cSane7_law (h : cSane7.A.wf (()) → cSane7_0   true) : ConOK Go.Proofs.Try.prog 16 cSane7 := by
  refine lawL (Γ := [(40, cCount7), (17, cNeeds7), (20, cRevert7), (23, cSameInts4)]) (Θ := Th) (n := 71) [] ⟨cCount7_ok, cNeeds7_ok, cRevert7_ok, cSameInts4_ok, trivial⟩ (by kernel_rfl) th_ok mix_ok Go.Proofs.Try.func16 (by kernel_rfl) ?_
  intro x hw hp Λ hC
  have h0 := h  hw  
  exact Eq.mpr (by kernel_rfl) h0
theorem cSane7_ok : ConOK Go.Proofs.Try.prog 16 cSane7 := by
  refine cSane7_law ?_
  intro hw
  unfold cSane7_0
  exact ⟨⟨rfl, rfl⟩, ⟨rfl, rfl, rfl⟩, ⟨rfl, rfl, rfl⟩, by decide⟩
end Go.Tk
