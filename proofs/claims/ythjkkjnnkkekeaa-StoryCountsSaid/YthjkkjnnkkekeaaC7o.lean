import Derived.Test.YthjkkjnnkkekeaaC7n
set_option linter.unusedSimpArgs false
set_option linter.unusedVariables false
set_option linter.unnecessarySimpa false
namespace Go.Tk
open Go Go.RowKit

theorem needV_mem {p : List Lin} {h : List (List Edt)} {n x : Int} : x ∈ needV p h n ↔ okN p h n ∧ ∃ k : Nat, x = (k : Int) ∧ need h n.toNat k = true := by
  unfold needV
  by_cases e : okN p h n
  · rw [if_pos e]
    unfold needsL
    rw [selTo_mem]
    have := okN_at e
    constructor
    · rintro ⟨k, h1, h2, h3⟩; exact ⟨e, k, h2, h3⟩
    · rintro ⟨_, k, h2, h3⟩; exact ⟨k, by have := need_lt h3; omega, h2, h3⟩
  · rw [if_neg e]; simp [e]
theorem neededV_mem {p : List Lin} {h : List (List Edt)} {n x : Int} : x ∈ neededV p h n ↔ okN p h n ∧ ∃ k : Nat, k < h.length ∧ x = (k : Int) ∧ need h k n.toNat = true := by
  unfold neededV
  by_cases e : okN p h n
  · rw [if_pos e]
    unfold neededL
    rw [selTo_mem]
    exact ⟨fun q => ⟨e, q⟩, fun q => q.2⟩
  · rw [if_neg e]; simp [e]
theorem dirV_len (p : List Lin) (h : List (List Edt)) (n : Int) : (dirV p h n).length ≤ 8 := by
  unfold dirV
  split
  · rename_i e
    have := okN_at e
    obtain ⟨N, rfl⟩ := Int.eq_ofNat_of_zero_le this.1
    rw [Int.toNat_natCast, dirTo_sel]
    have := selTo_len (fun k => tch h k N) N
    omega
  · simp
theorem needV_len (p : List Lin) (h : List (List Edt)) (n : Int) : (needV p h n).length ≤ 8 := by
  unfold needV
  split
  · rename_i e
    have := okN_at e
    have := selTo_len (need h n.toNat) h.length
    unfold needsL; omega
  · simp
theorem neededV_len (p : List Lin) (h : List (List Edt)) (n : Int) : (neededV p h n).length ≤ 8 := by
  unfold neededV
  split
  · rename_i e
    have := okN_at e
    have := selTo_len (fun k => need h k n.toNat) h.length
    unfold neededL; omega
  · simp
theorem revP_len (p : List Lin) (h : List (List Edt)) (s : List Int) : (revP p h s).length ≤ 8 := by
  unfold revP
  split
  · rename_i e
    rw [playH_len]
    exact (validP_ok (err7_ok e.1).1).1
  · simp
theorem revL_len (p : List Lin) (h : List (List Edt)) (s : List Int) : (revL p h s).length ≤ 8 := by
  unfold revL
  split
  · rename_i e
    have := (err7_ok e.1).2.1
    have := selTo_len (fun k => !goneB h s k) h.length
    unfold leftN; omega
  · simp
theorem revL_mem {p : List Lin} {h : List (List Edt)} {s : List Int} {x : Int} : x ∈ revL p h s ↔ okS7 p h s ∧ ∃ k : Nat, k < h.length ∧ x = (k : Int) ∧ goneB h s k = false := by
  unfold revL
  by_cases e : okS7 p h s
  · rw [if_pos e]
    unfold leftN
    rw [selTo_mem]
    simp only [Bool.not_eq_true']
    exact ⟨fun q => ⟨e, q⟩, fun q => q.2⟩
  · rw [if_neg e]; simp [e]
theorem goneB_up (h : List (List Edt)) {n k : Nat} (hk : k < n) : goneB h (upI n) k = true := by
  unfold goneB
  rw [Bool.or_eq_true]
  exact .inl (decide_eq_true (upI_mem.2 ⟨by omega, by omega⟩))
theorem leftH_none {h : List (List Edt)} {s : List Int} : ∀ {n}, (∀ k, k < n → goneB h s k = true) → leftH h s n = []
  | 0, _ => rfl
  | n + 1, e => by
    unfold leftH
    rw [leftH_none (n := n) fun k hk => e k (by omega), if_pos (e n (by omega))]; rfl
theorem leftH_nil (h : List (List Edt)) : ∀ n, n ≤ h.length → leftH h [] n = h.take n
  | 0, _ => by simp [leftH]
  | n + 1, hn => by
    have e : goneB h [] n = false := by simp [goneB]
    unfold leftH
    rw [leftH_nil h n (by omega), e, if_neg (by simp), take_snoc [] (by omega)]
theorem rev_all {p : List Lin} {h : List (List Edt)} (e : err7 p h = 0) : revE p h (upI h.length) = 0 ∧ revP p h (upI h.length) = p ∧ revL p h (upI h.length) = [] := by
  have ok : okS7 p h (upI h.length) := ⟨e, isSetB_up _⟩
  refine ⟨revE_iff.2 ok, ?_, ?_⟩
  · unfold revP
    rw [if_pos ok, leftH_none fun k hk => goneB_up h hk]; rfl
  · unfold revL leftN
    rw [if_pos ok, selTo_none fun k hk => by rw [goneB_up h hk]; rfl]
theorem rev_nil {p : List Lin} {h : List (List Edt)} (e : err7 p h = 0) : revE p h [] = 0 ∧ revP p h [] = playH p h ∧ revL p h [] = upI h.length := by
  have ok : okS7 p h [] := ⟨e, rfl⟩
  refine ⟨revE_iff.2 ok, ?_, ?_⟩
  · unfold revP
    rw [if_pos ok, leftH_nil h _ (Nat.le_refl _), List.take_length]
  · unfold revL leftN
    rw [if_pos ok, selTo_all fun k hk => by simp [goneB]]

abbrev cPlayG : Con := { A := (.cons (.sl tL) (.cons (.sl (.sl tEd)) (.cons (.sl .int) .nil))), R := (.cons (.osl tL) .nil), pre := fun x => okH x.1.length x.2.1 ∧ x.1.length ≤ 8 ∧ ∀ n' ∈ x.2.2.1, 0 ≤ n' ∧ n' < (x.2.1.length : Int), F := fun x => (playH x.1 (x.2.2.1.map fun k' => List.getD x.2.1 (Int.toNat k') []), ()) }
def cPlayG_0 (Λ1 : Int → (List Lin) → Prop) (Λ2 : Int → Int → (List Lin) → Prop) (p : (List Lin)) (h : (List (List Edt))) (numbers : (List Int)) (y0 : (List Lin)) : Prop :=
  List.length ([] : List Lin) + List.length p ≤ 4294967296 ∧ Λ1 (0 : Int) (([] : List Lin) ++ p)
def cPlayG_1 (Λ1 : Int → (List Lin) → Prop) (Λ2 : Int → Int → (List Lin) → Prop) (p : (List Lin)) (h : (List (List Edt))) (numbers : (List Int)) (y0 : (List Lin))  (i_1 : Int) (out_1 : (List Lin)) : Prop :=
  if (decide (i_1 < (List.length numbers : Int))) = true then (idx i_1 (List.length numbers : Int) ∧ (idx (List.getD numbers (Int.toNat i_1) 0) (List.length h : Int) ∧ Λ2 i_1 (0 : Int) out_1)) else out_1 = y0
def cPlayG_2 (Λ1 : Int → (List Lin) → Prop) (Λ2 : Int → Int → (List Lin) → Prop) (p : (List Lin)) (h : (List (List Edt))) (numbers : (List Int)) (y0 : (List Lin)) (i_1 : Int) (k_2 : Int) (out_2 : (List Lin)) : Prop :=
  if (decide (k_2 < (List.length (List.getD h (Int.toNat (List.getD numbers (Int.toNat i_1) 0)) ([] : List Edt)) : Int))) = true then (idx k_2 (List.length (List.getD h (Int.toNat (List.getD numbers (Int.toNat i_1) 0)) ([] : List Edt)) : Int) ∧ (idx k_2 (List.length (List.getD h (Int.toNat (List.getD numbers (Int.toNat i_1) 0)) ([] : List Edt)) : Int) ∧ (idx ((List.getD (List.getD h (Int.toNat (List.getD numbers (Int.toNat i_1) 0)) ([] : List Edt)) (Int.toNat k_2) tEd.dflt).1) (List.length out_2 : Int) ∧ (inI (k_2 + (1 : Int)) ∧ Λ2 i_1 (k_2 + (1 : Int)) (List.set out_2 (Int.toNat ((List.getD (List.getD h (Int.toNat (List.getD numbers (Int.toNat i_1) 0)) ([] : List Edt)) (Int.toNat k_2) tEd.dflt).1)) ((List.getD (List.getD h (Int.toNat (List.getD numbers (Int.toNat i_1) 0)) ([] : List Edt)) (Int.toNat k_2) tEd.dflt).2.1)))))) else (inI (i_1 + (1 : Int)) ∧ Λ1 (i_1 + (1 : Int)) out_2)
theorem cPlayG_law (h : ∀ (p : (List Lin)) (h : (List (List Edt))) (numbers : (List Int)), cPlayG.A.wf (p, h, numbers, ()) → (okH p.length h ∧ p.length ≤ 8 ∧ ∀ n' ∈ numbers, 0 ≤ n' ∧ n' < (h.length : Int)) → ∀ (Λ1 : Int → (List Lin) → Prop) (Λ2 : Int → Int → (List Lin) → Prop), (∀ (i_1 : Int) (out_1 : (List Lin)), cPlayG_1 Λ1 Λ2 p h numbers (playH p (numbers.map fun k' => List.getD h (Int.toNat k') [])) i_1 out_1 → Λ1 i_1 out_1) → (∀ (i_1 : Int) (k_2 : Int) (out_2 : (List Lin)), cPlayG_2 Λ1 Λ2 p h numbers (playH p (numbers.map fun k' => List.getD h (Int.toNat k') [])) i_1 k_2 out_2 → Λ2 i_1 k_2 out_2) → cPlayG_0 Λ1 Λ2 p h numbers (playH p (numbers.map fun k' => List.getD h (Int.toNat k') []))) : ConOK Go.Proofs.Try.prog 66 cPlayG := by
  refine lawL (Γ := []) (Θ := Th) (n := 46) [([1, 1, 0, 1, 0], ⟨[(1, false), (2, false), (7, true), (8, true)], [(11, true)]⟩), ([1, 1, 0, 1, 0, 0, 1, 0, 0, 1, 1, 0], ⟨[(1, false), (2, false), (7, true), (8, true), (9, false), (10, true)], [(11, true)]⟩)] trivial (by kernel_rfl) th_ok mix_ok Go.Proofs.Try.func66 (by kernel_rfl) ?_
  intro x hw hp Λ hC
  have h0 := h x.1 x.2.1 x.2.2.1 hw hp (fun i_1 out_1 => Λ [1, 1, 0, 1, 0] ([(1, .d false (.sl (.sl tEd)) x.2.1), (2, .d false (.sl .int) x.2.2.1), (7, .own 11 0), (8, .d true .int i_1)], [(11, .sl true tL out_1)])) (fun i_1 k_2 out_2 => Λ [1, 1, 0, 1, 0, 0, 1, 0, 0, 1, 1, 0] ([(1, .d false (.sl (.sl tEd)) x.2.1), (2, .d false (.sl .int) x.2.2.1), (7, .own 11 0), (8, .d true .int i_1), (9, .d false (.sl tEd) (List.getD x.2.1 (Int.toNat (List.getD x.2.2.1 (Int.toNat i_1) 0)) ([] : List Edt))), (10, .d true .int k_2)], [(11, .sl true tL out_2)])) (fun i_1 out_1 hb => hC [1, 1, 0, 1, 0] ([(1, .d false (.sl (.sl tEd)) x.2.1), (2, .d false (.sl .int) x.2.2.1), (7, .own 11 0), (8, .d true .int i_1)], [(11, .sl true tL out_1)]) (Eq.mpr (by kernel_rfl) hb)) (fun i_1 k_2 out_2 hb => hC [1, 1, 0, 1, 0, 0, 1, 0, 0, 1, 1, 0] ([(1, .d false (.sl (.sl tEd)) x.2.1), (2, .d false (.sl .int) x.2.2.1), (7, .own 11 0), (8, .d true .int i_1), (9, .d false (.sl tEd) (List.getD x.2.1 (Int.toNat (List.getD x.2.2.1 (Int.toNat i_1) 0)) ([] : List Edt))), (10, .d true .int k_2)], [(11, .sl true tL out_2)]) (Eq.mpr (by kernel_rfl) hb))
  exact Eq.mpr (by kernel_rfl) h0
theorem cPlayG_ok : ConOK Go.Proofs.Try.prog 66 cPlayG := by
  refine cPlayG_law ?_
  intro p h numbers hw hp Λ1 Λ2 h1 h2
  unfold cPlayG_0
  obtain ⟨p3, p4, p5⟩ := hp
  refine ⟨by simp only [List.length_nil]; omega, ?_⟩
  rw [List.nil_append]
  have hlh : h.length ≤ 140737488355328 := hw.2.1.1
  have hln : numbers.length ≤ 140737488355328 := hw.2.2.1.1
  refine upto (n := numbers.length) (Q := fun i => Λ1 (i : Int) (playH p ((numbers.take i).map fun k' => List.getD h (Int.toNat k') []))) ?_ ?_ 0 (Nat.zero_le _)
  · apply h1; unfold cPlayG_1; rw [if_neg (by simp), List.take_length]
  · intro i hi ih
    have hx0 := p5 _ (mem_getD (d := 0) hi)
    apply h1; unfold cPlayG_1; rw [if_pos (by simpa using hi), Int.toNat_natCast]
    refine ⟨idx_nat hi, ⟨hx0.1, hx0.2⟩, ?_⟩
    rw [take_snoc 0 hi, List.map_append] at ih
    have e : playH p ((numbers.take i).map (fun k' => List.getD h (Int.toNat k') []) ++ [numbers.getD i 0].map (fun k' => List.getD h (Int.toNat k') [])) = playX (playH p ((numbers.take i).map fun k' => List.getD h (Int.toNat k') [])) (List.getD h (Int.toNat (numbers.getD i 0)) []) := by
      unfold playH
      rw [List.foldl_append]; rfl
    rw [e] at ih
    have hm : List.getD h (Int.toNat (numbers.getD i 0)) [] ∈ h := mem_getD (by omega)
    have hOl : (playH p ((numbers.take i).map fun k' => List.getD h (Int.toNat k') [])).length = p.length := playH_len ..
    generalize playH p ((numbers.take i).map fun k' => List.getD h (Int.toNat k') []) = O at ih hOl ⊢
    have hx := p3 _ hm
    have hlx : (List.getD h (Int.toNat (numbers.getD i 0)) []).length ≤ 140737488355328 := (hw.2.1.2 _ hm).1
    refine upto (n := (List.getD h (Int.toNat (numbers.getD i 0)) []).length) (Q := fun j => Λ2 (i : Int) (j : Int) (playX O ((List.getD h (Int.toNat (numbers.getD i 0)) []).take j))) ?_ ?_ 0 (Nat.zero_le _)
    · apply h2; unfold cPlayG_2
      rw [Int.toNat_natCast, if_neg (by simp), List.take_length]
      exact ⟨inI_succ hi hln, ih⟩
    · intro j hj ihj
      rw [playX_take _ _ hj] at ihj
      have he := hx _ (mem_getD (d := tEd.dflt) hj)
      apply h2; unfold cPlayG_2
      rw [Int.toNat_natCast, Int.toNat_natCast, if_pos (by simpa using hj)]
      exact ⟨idx_nat hj, idx_nat hj, ⟨he.1, by rw [playX_len, hOl]; exact he.2⟩, inI_succ hj hlx, ihj⟩
abbrev cRevertR : Con := { A := (.cons (.sl tL) (.cons (.sl (.sl tEd)) (.cons (.sl .int) .nil))), R := (.cons (.osl tL) (.cons (.sl .int) (.cons .int .nil))), pre := fun x => True, F := fun x => (revP x.1 x.2.1 x.2.2.1, revL x.1 x.2.1 x.2.2.1, revE x.1 x.2.1 x.2.2.1, ()) }
def cRevertR_0 (Λ1 : Int → Prop) (Λ2 : Int → (List Int) → Prop) (Λ3 : (List Int) → Int → Bool → Int → Prop) (p : (List Lin)) (h : (List (List Edt))) (set_ : (List Int)) (y0 : (List Lin)) (y1 : (List Int)) (y2 : Int) : Prop :=
  True ∧ (if ((err7 p h) != (0 : Int)) = true then (([] : List Int) = y1 ∧ (err7 p h) = y2 ∧ ([] : List Lin) = y0) else Λ1 (0 : Int))
def cRevertR_1 (Λ1 : Int → Prop) (Λ2 : Int → (List Int) → Prop) (Λ3 : (List Int) → Int → Bool → Int → Prop) (p : (List Lin)) (h : (List (List Edt))) (set_ : (List Int)) (y0 : (List Lin)) (y1 : (List Int)) (y2 : Int)  (i_1 : Int) : Prop :=
  if (decide (i_1 < (List.length set_ : Int))) = true then (idx i_1 (List.length set_ : Int) ∧ (if (decide ((List.getD set_ (Int.toNat i_1) 0) < (0 : Int))) = true then (true = true ∧ (true = true ∧ (([] : List Int) = y1 ∧ (1 : Int) = y2 ∧ ([] : List Lin) = y0))) else (idx i_1 (List.length set_ : Int) ∧ (True ∧ (if (bif false then true else (decide ((List.getD set_ (Int.toNat i_1) 0) ≥ (List.length h : Int)))) = true then (true = true ∧ (([] : List Int) = y1 ∧ (1 : Int) = y2 ∧ ([] : List Lin) = y0)) else (if (decide (i_1 > (0 : Int))) = true then (inI (i_1 - (1 : Int)) ∧ (idx (i_1 - (1 : Int)) (List.length set_ : Int) ∧ (idx i_1 (List.length set_ : Int) ∧ (True ∧ (True ∧ (if (bif false then true else (bif true then (decide ((List.getD set_ (Int.toNat (i_1 - (1 : Int))) 0) ≥ (List.getD set_ (Int.toNat i_1) 0))) else false)) = true then (([] : List Int) = y1 ∧ (1 : Int) = y2 ∧ ([] : List Lin) = y0) else (inI (i_1 + (1 : Int)) ∧ Λ1 (i_1 + (1 : Int))))))))) else (false = false ∧ (True ∧ (if (bif false then true else false) = true then (([] : List Int) = y1 ∧ (1 : Int) = y2 ∧ ([] : List Lin) = y0) else (inI (i_1 + (1 : Int)) ∧ Λ1 (i_1 + (1 : Int)))))))))))) else (h.length ≤ 8 ∧ Λ2 (0 : Int) ([] : List Int))
def cRevertR_2 (Λ1 : Int → Prop) (Λ2 : Int → (List Int) → Prop) (Λ3 : (List Int) → Int → Bool → Int → Prop) (p : (List Lin)) (h : (List (List Edt))) (set_ : (List Int)) (y0 : (List Lin)) (y1 : (List Int)) (y2 : Int)  (n_2 : Int) (left_2 : (List Int)) : Prop :=
  if (decide (n_2 < (List.length h : Int))) = true then (True ∧ Λ3 left_2 n_2 (decide (n_2 ∈ set_)) (0 : Int)) else ((okH p.length h ∧ p.length ≤ 8 ∧ ∀ n' ∈ left_2, 0 ≤ n' ∧ n' < (h.length : Int)) ∧ (left_2 = y1 ∧ (0 : Int) = y2 ∧ (playH p (left_2.map fun k' => List.getD h (Int.toNat k') [])) = y0))
def cRevertR_3 (Λ1 : Int → Prop) (Λ2 : Int → (List Int) → Prop) (Λ3 : (List Int) → Int → Bool → Int → Prop) (p : (List Lin)) (h : (List (List Edt))) (set_ : (List Int)) (y0 : (List Lin)) (y1 : (List Int)) (y2 : Int) (left_2 : (List Int)) (n_2 : Int) (goes_3 : Bool) (i_3 : Int) : Prop :=
  if (decide (i_3 < (List.length set_ : Int))) = true then (if goes_3 = true then (true = true ∧ (inI (i_3 + (1 : Int)) ∧ Λ3 left_2 n_2 true (i_3 + (1 : Int)))) else (idx n_2 (List.length (matN h) : Int) ∧ (idx i_3 (List.length set_ : Int) ∧ (idx (List.getD set_ (Int.toNat i_3) 0) (List.length (List.getD (matN h) (Int.toNat n_2) ([] : List Bool)) : Int) ∧ (True ∧ (inI (i_3 + (1 : Int)) ∧ Λ3 left_2 n_2 (bif false then true else (List.getD (List.getD (matN h) (Int.toNat n_2) ([] : List Bool)) (Int.toNat (List.getD set_ (Int.toNat i_3) 0)) false)) (i_3 + (1 : Int)))))))) else (if (!goes_3) = true then (List.length left_2 + List.length [n_2] ≤ 4294967296 ∧ (inI (n_2 + (1 : Int)) ∧ Λ2 (n_2 + (1 : Int)) (left_2 ++ [n_2]))) else (inI (n_2 + (1 : Int)) ∧ Λ2 (n_2 + (1 : Int)) left_2))
theorem cRevertR_law (h : ∀ (p : (List Lin)) (h : (List (List Edt))) (set_ : (List Int)), cRevertR.A.wf (p, h, set_, ()) → ∀ (Λ1 : Int → Prop) (Λ2 : Int → (List Int) → Prop) (Λ3 : (List Int) → Int → Bool → Int → Prop), (∀ (i_1 : Int), cRevertR_1 Λ1 Λ2 Λ3 p h set_ (revP p h set_) (revL p h set_) (revE p h set_) i_1 → Λ1 i_1) → (∀ (n_2 : Int) (left_2 : (List Int)), cRevertR_2 Λ1 Λ2 Λ3 p h set_ (revP p h set_) (revL p h set_) (revE p h set_) n_2 left_2 → Λ2 n_2 left_2) → (∀ (left_2 : (List Int)) (n_2 : Int) (goes_3 : Bool) (i_3 : Int), cRevertR_3 Λ1 Λ2 Λ3 p h set_ (revP p h set_) (revL p h set_) (revE p h set_) left_2 n_2 goes_3 i_3 → Λ3 left_2 n_2 goes_3 i_3) → cRevertR_0 Λ1 Λ2 Λ3 p h set_ (revP p h set_) (revL p h set_) (revE p h set_)) : ConOK Go.Proofs.Try.prog 21 cRevertR := by
  refine lawL (Γ := [(19, cHas4), (65, cNeedsMR), (66, cPlayG), (33, cVal7R)]) (Θ := Th) (n := 99) [([1, 1, 1, 0, 1, 0], ⟨[(0, false), (1, false), (2, false), (10, true)], []⟩), ([1, 1, 1, 1, 1, 1, 0, 1, 0], ⟨[(0, false), (1, false), (2, false), (11, false), (12, true), (13, true)], [(12, true)]⟩), ([1, 1, 1, 1, 1, 1, 0, 1, 0, 0, 1, 0, 0, 1, 0, 1, 0], ⟨[(0, false), (1, false), (2, false), (11, false), (12, true), (13, true), (14, true), (15, true)], [(12, true)]⟩)] ⟨cHas4_ok, cNeedsMR_ok, cPlayG_ok, cVal7R_ok, trivial⟩ (by kernel_rfl) th_ok mix_ok Go.Proofs.Try.func21 (by kernel_rfl) ?_
  intro x hw hp Λ hC
  have h0 := h x.1 x.2.1 x.2.2.1 hw (fun i_1 => Λ [1, 1, 1, 0, 1, 0] ([(0, .d false (.sl tL) x.1), (1, .d false (.sl (.sl tEd)) x.2.1), (2, .d false (.sl .int) x.2.2.1), (10, .d true .int i_1)], [])) (fun n_2 left_2 => Λ [1, 1, 1, 1, 1, 1, 0, 1, 0] ([(0, .d false (.sl tL) x.1), (1, .d false (.sl (.sl tEd)) x.2.1), (2, .d false (.sl .int) x.2.2.1), (11, .d false (.sl (.sl .bool)) (matN x.2.1)), (12, .own 12 0), (13, .d true .int n_2)], [(12, .sl true .int left_2)])) (fun left_2 n_2 goes_3 i_3 => Λ [1, 1, 1, 1, 1, 1, 0, 1, 0, 0, 1, 0, 0, 1, 0, 1, 0] ([(0, .d false (.sl tL) x.1), (1, .d false (.sl (.sl tEd)) x.2.1), (2, .d false (.sl .int) x.2.2.1), (11, .d false (.sl (.sl .bool)) (matN x.2.1)), (12, .own 12 0), (13, .d true .int n_2), (14, .d true .bool goes_3), (15, .d true .int i_3)], [(12, .sl true .int left_2)])) (fun i_1 hb => hC [1, 1, 1, 0, 1, 0] ([(0, .d false (.sl tL) x.1), (1, .d false (.sl (.sl tEd)) x.2.1), (2, .d false (.sl .int) x.2.2.1), (10, .d true .int i_1)], []) (Eq.mpr (by kernel_rfl) hb)) (fun n_2 left_2 hb => hC [1, 1, 1, 1, 1, 1, 0, 1, 0] ([(0, .d false (.sl tL) x.1), (1, .d false (.sl (.sl tEd)) x.2.1), (2, .d false (.sl .int) x.2.2.1), (11, .d false (.sl (.sl .bool)) (matN x.2.1)), (12, .own 12 0), (13, .d true .int n_2)], [(12, .sl true .int left_2)]) (Eq.mpr (by kernel_rfl) hb)) (fun left_2 n_2 goes_3 i_3 hb => hC [1, 1, 1, 1, 1, 1, 0, 1, 0, 0, 1, 0, 0, 1, 0, 1, 0] ([(0, .d false (.sl tL) x.1), (1, .d false (.sl (.sl tEd)) x.2.1), (2, .d false (.sl .int) x.2.2.1), (11, .d false (.sl (.sl .bool)) (matN x.2.1)), (12, .own 12 0), (13, .d true .int n_2), (14, .d true .bool goes_3), (15, .d true .int i_3)], [(12, .sl true .int left_2)]) (Eq.mpr (by kernel_rfl) hb))
  exact Eq.mpr (by kernel_rfl) h0
theorem cRevertR_ok : ConOK Go.Proofs.Try.prog 21 cRevertR := by
  refine cRevertR_law ?_
  intro p h set_ hw Λ1 Λ2 Λ3 h1 h2 h3
  unfold cRevertR_0
  refine ⟨trivial, ?_⟩
  by_cases e : err7 p h = 0
  · rw [if_neg (by simp [e])]
    obtain ⟨e1, e2, e3, e4⟩ := err7_ok e
    have hsl : set_.length ≤ 140737488355328 := hw.2.2.1.1
    refine upto (n := set_.length) (Q := fun i => okSet set_ h.length i = true → Λ1 (i : Int)) ?_ ?_ 0 (Nat.zero_le _) rfl
    · intro ha
      have s : isSetB set_ h.length = true := ha
      have ok : okS7 p h set_ := ⟨e, s⟩
      have hm := isSetB_mem s
      have hs8 := isSetB_len s
      apply h1; unfold cRevertR_1; rw [if_neg (by simp)]
      refine ⟨e2, ?_⟩
      refine upto (n := h.length) (Q := fun i => Λ2 (i : Int) (leftN h set_ i)) ?_ ?_ 0 (Nat.zero_le _)
      · apply h2; unfold cRevertR_2; rw [if_neg (by simp), ← leftH_map]
        refine ⟨⟨e3, (validP_ok e1).1, fun n hn => ?_⟩, ?_, (revE_iff.2 ok).symm, ?_⟩
        · unfold leftN at hn
          rw [selTo_mem] at hn
          obtain ⟨k, h1, h2, _⟩ := hn
          omega
        · unfold revL; rw [if_pos ok]
        · unfold revP; rw [if_pos ok]
      · intro n hn ih
        have hle := selTo_len (fun k => !goneB h set_ k) n
        apply h2; unfold cRevertR_2; rw [if_pos (by simpa using hn)]
        refine ⟨trivial, ?_⟩
        have fin : ∀ b : Bool, b = goneB h set_ n → (if (!b) = true then ((leftN h set_ n).length + [(n : Int)].length ≤ 4294967296 ∧ (inI ((n : Int) + 1) ∧ Λ2 ((n : Int) + 1) (leftN h set_ n ++ [(n : Int)]))) else (inI ((n : Int) + 1) ∧ Λ2 ((n : Int) + 1) (leftN h set_ n))) := by
          intro b hb
          subst hb
          unfold leftN at ih ⊢
          rw [show selTo (fun k => !goneB h set_ k) (n + 1) = selTo (fun k => !goneB h set_ k) n ++ if (!goneB h set_ n) = true then [(n : Int)] else [] from rfl] at ih
          by_cases g : (!goneB h set_ n) = true
          · rw [if_pos g] at ih ⊢
            exact ⟨by simp only [List.length_cons, List.length_nil]; omega, inI_succ hn (by omega), ih⟩
          · rw [if_neg g, List.append_nil] at ih
            rw [if_neg g]
            exact ⟨inI_succ hn (by omega), ih⟩
        refine upto (n := set_.length) (Q := fun i => ∀ b : Bool, b = (decide ((n : Int) ∈ set_) || (set_.take i).any fun k => need h n k.toNat) → Λ3 (leftN h set_ n) (n : Int) b (i : Int)) ?_ ?_ 0 (Nat.zero_le _) _ (by simp)
        · intro b hb
          rw [List.take_length] at hb
          apply h3; unfold cRevertR_3; rw [if_neg (by simp)]
          exact fin b hb
        · intro i hi ihi b hb
          have hx := hm _ (mem_getD (d := 0) hi)
          have nx : ∀ c : Bool, c = (b || need h n (set_.getD i 0).toNat) → c = (decide ((n : Int) ∈ set_) || (set_.take (i + 1)).any fun k => need h n k.toNat) := by
            intro c hc
            rw [take_snoc 0 hi, List.any_append, hc, hb]
            simp [Bool.or_assoc]
          apply h3; unfold cRevertR_3; rw [if_pos (by simpa using hi), Int.toNat_natCast, Int.toNat_natCast, matN_get h hn, matN_row h hn, matN_len, rowN_len]
          cases b
          · rw [if_neg (by simp)]
            exact ⟨⟨by omega, by omega⟩, idx_nat hi, ⟨hx.1, hx.2⟩, trivial, inI_succ hi (by omega), ihi _ (nx _ rfl)⟩
          · rw [if_pos rfl]
            exact ⟨rfl, inI_succ hi (by omega), ihi _ (nx _ (by simp))⟩
    · intro i hi ih ha
      have no : (decide (0 ≤ set_.getD i 0) && decide (set_.getD i 0 < (h.length : Int)) && !(decide (i > 0) && decide (set_.getD i 0 ≤ set_.getD (i - 1) 0))) = false → ([] : List Int) = revL p h set_ ∧ (1 : Int) = revE p h set_ ∧ ([] : List Lin) = revP p h set_ := by
        intro q
        have q2 : isSetB set_ h.length = false := okSet_false q _ hi
        have no : ¬ okS7 p h set_ := fun w => by have := w.2; rw [q2] at this; cases this
        unfold revL revE revP
        rw [if_neg no, if_neg no, if_pos e, q2]
        exact ⟨rfl, rfl, rfl⟩
      have good : (decide (0 ≤ set_.getD i 0) && decide (set_.getD i 0 < (h.length : Int)) && !(decide (i > 0) && decide (set_.getD i 0 ≤ set_.getD (i - 1) 0))) = true → okSet set_ h.length (i + 1) = true := fun q => by unfold okSet; rw [ha, q]; rfl
      apply h1; unfold cRevertR_1; rw [if_pos (by simpa using hi), Int.toNat_natCast]
      refine ⟨idx_nat hi, ?_⟩
      by_cases a1 : List.getD set_ i 0 < 0
      · rw [if_pos (decide_eq_true a1)]
        exact ⟨rfl, rfl, no (by rw [decide_eq_false (by omega : ¬ (0 ≤ List.getD set_ i 0))]; rfl)⟩
      rw [if_neg (by rw [decide_eq_true_eq]; exact a1)]
      refine ⟨idx_nat hi, trivial, ?_⟩
      have w1 : decide (0 ≤ List.getD set_ i 0) = true := decide_eq_true (by omega)
      by_cases a2 : List.getD set_ i 0 ≥ (h.length : Int)
      · rw [if_pos (by show decide _ = true; exact decide_eq_true a2)]
        exact ⟨rfl, no (by rw [decide_eq_false (by omega : ¬ (List.getD set_ i 0 < (h.length : Int))), Bool.and_false]; rfl)⟩
      rw [if_neg (by show ¬ decide _ = true; rw [decide_eq_true_eq]; exact a2)]
      have w2 : decide (List.getD set_ i 0 < (h.length : Int)) = true := decide_eq_true (by omega)
      rw [w1, w2] at no good
      by_cases a3 : i > 0
      · rw [if_pos (by simpa using a3)]
        have e1 : ((i : Int) - 1).toNat = i - 1 := by omega
        rw [e1]
        refine ⟨by unfold inI; omega, ⟨by omega, by omega⟩, idx_nat hi, trivial, trivial, ?_⟩
        by_cases a5 : List.getD set_ i 0 ≤ List.getD set_ (i - 1) 0
        · rw [if_pos (by show decide _ = true; exact decide_eq_true a5)]
          exact no (by rw [decide_eq_true a3, decide_eq_true a5]; rfl)
        · rw [if_neg (by show ¬ decide _ = true; rw [decide_eq_true_eq]; exact a5)]
          exact ⟨inI_succ hi hsl, ih (good (by rw [decide_eq_false a5, Bool.and_false]; rfl))⟩
      · rw [if_neg (by simpa using a3)]
        refine ⟨rfl, trivial, ?_⟩
        rw [if_neg (by simp)]
        exact ⟨inI_succ hi hsl, ih (good (by rw [decide_eq_false a3]; rfl))⟩
  · have no : ¬ okS7 p h set_ := fun q => e q.1
    rw [if_pos (by simpa using e)]
    unfold revP revL revE
    rw [if_neg no, if_neg no, if_neg e]
    exact ⟨rfl, rfl, rfl⟩
abbrev cStoryNeeds : Con := { A := (.cons (.sl tL) (.cons (.sl (.sl tEd)) (.cons .int .nil))), R := (.cons .bool .nil), pre := fun x => True, F := fun x => (true, ()) }
def cStoryNeeds_0  (p : (List Lin)) (h : (List (List Edt))) (n : Int) (y0 : Bool) : Prop :=
  True ∧ (if (decide (∃ x' ∈ h, 50 < x'.length) || decide (100 < p.length) || decide (50 < h.length)) = true then (True ∧ (true = y0 ∧ True)) else (True ∧ (True ∧ (True ∧ (True ∧ (True ∧ (True ∧ ((dirV p h n).length ≤ 1000000 ∧ (if (decide ((dirV p h n) = (dirV p h n))) = true then (True ∧ (if (bif true then ((nE p h n) == (nE p h n)) else false) = true then ((needV p h n).length ≤ 1000000 ∧ (True ∧ (if (bif true then (decide ((needV p h n) = (needV p h n))) else false) = true then (True ∧ (if (bif true then ((nE p h n) == (nE p h n)) else false) = true then ((neededV p h n).length ≤ 1000000 ∧ (True ∧ (if (bif true then (decide ((neededV p h n) = (neededV p h n))) else false) = true then (True ∧ (if (bif true then ((nE p h n) == (nE p h n)) else false) = true then (True ∧ (True ∧ ((bif true then true else false) = y0 ∧ True))) else (false = false ∧ (false = y0 ∧ True)))) else (false = false ∧ (false = false ∧ (false = y0 ∧ True)))))) else (false = false ∧ (false = false ∧ (false = false ∧ (false = y0 ∧ True)))))) else (false = false ∧ (false = false ∧ (false = false ∧ (false = false ∧ (false = y0 ∧ True)))))))) else (false = false ∧ (false = false ∧ (false = false ∧ (false = false ∧ (false = false ∧ (false = y0 ∧ True)))))))) else (false = false ∧ (false = false ∧ (false = false ∧ (false = false ∧ (false = false ∧ (false = false ∧ (false = y0 ∧ True))))))))))))))))
theorem cStoryNeeds_law (h : ∀ (p : (List Lin)) (h : (List (List Edt))) (n : Int), cStoryNeeds.A.wf (p, h, n, ()) → cStoryNeeds_0  p h n true) : ConOK Go.Proofs.Try.prog 6 cStoryNeeds := by
  refine lawL (Γ := [(25, cDirectP), (26, cDirectR), (15, cLong7), (18, cNeededP), (28, cNeededR), (17, cNeedsP), (27, cNeedsR), (23, cSameInts4), (16, cSane7)]) (Θ := Th) (n := 96) [] ⟨cDirectP_ok, cDirectR_ok, cLong7_ok, cNeededP_ok, cNeededR_ok, cNeedsP_ok, cNeedsR_ok, cSameInts4_ok, cSane7_ok, trivial⟩ (by kernel_rfl) th_ok mix_ok Go.Proofs.Try.func6 (by kernel_rfl) ?_
  intro x hw hp Λ hC
  have h0 := h x.1 x.2.1 x.2.2.1 hw  
  exact Eq.mpr (by kernel_rfl) h0
theorem cStoryNeeds_ok : ConOK Go.Proofs.Try.prog 6 cStoryNeeds := by
  refine cStoryNeeds_law ?_
  intro p h n hw
  unfold cStoryNeeds_0
  have l1 : (dirV p h n).length ≤ 1000000 := by have := dirV_len p h n; omega
  have l2 : (needV p h n).length ≤ 1000000 := by have := needV_len p h n; omega
  have l3 : (neededV p h n).length ≤ 1000000 := by have := neededV_len p h n; omega
  refine ⟨trivial, ?_⟩
  split
  · exact ⟨trivial, rfl, trivial⟩
  · simp [l1, l2, l3]
abbrev cStoryMutual : Con := { A := (.cons (.sl tL) (.cons (.sl (.sl tEd)) (.cons tTwo7 .nil))), R := (.cons .bool .nil), pre := fun x => True, F := fun x => (true, ()) }
def cStoryMutual_0 (Λ1 : Int → Prop) (Λ2 : Int → Int → Prop) (p : (List Lin)) (h : (List (List Edt))) (x : Two7) (y0 : Bool) : Prop :=
  True ∧ (if (decide (∃ x' ∈ h, 50 < x'.length) || decide (100 < p.length) || decide (50 < h.length)) = true then (True ∧ (true = y0 ∧ True)) else (True ∧ (True ∧ (if ((nE p h x.1) != (0 : Int)) = true then (true = true ∧ (True ∧ (true = y0 ∧ True))) else (True ∧ (if (bif false then true else ((nE p h x.2.1) != (0 : Int))) = true then (True ∧ (true = y0 ∧ True)) else Λ1 (0 : Int)))))))
def cStoryMutual_1 (Λ1 : Int → Prop) (Λ2 : Int → Int → Prop) (p : (List Lin)) (h : (List (List Edt))) (x : Two7) (y0 : Bool)  (i_1 : Int) : Prop :=
  if (decide (i_1 < (List.length (needV p h x.1) : Int))) = true then (idx i_1 (List.length (needV p h x.1) : Int) ∧ (True ∧ (if ((nE p h (List.getD (needV p h x.1) (Int.toNat i_1) 0)) != (0 : Int)) = true then (true = true ∧ (false = y0 ∧ True)) else (idx i_1 (List.length (needV p h x.1) : Int) ∧ (True ∧ (if (bif false then true else (decide ((List.getD (needV p h x.1) (Int.toNat i_1) 0) ≥ x.1))) = true then (false = y0 ∧ True) else Λ2 i_1 (0 : Int))))))) else (True ∧ (True ∧ (if ((decide (x.2.1 ∈ (needV p h x.1))) == (decide (x.1 ∈ (neededV p h x.2.1)))) = true then (True ∧ (True ∧ ((bif true then true else false) = y0 ∧ True))) else (false = false ∧ (false = y0 ∧ True)))))
def cStoryMutual_2 (Λ1 : Int → Prop) (Λ2 : Int → Int → Prop) (p : (List Lin)) (h : (List (List Edt))) (x : Two7) (y0 : Bool) (i_1 : Int) (j_2 : Int) : Prop :=
  if (decide (j_2 < (List.length (needV p h (List.getD (needV p h x.1) (Int.toNat i_1) 0)) : Int))) = true then (idx j_2 (List.length (needV p h (List.getD (needV p h x.1) (Int.toNat i_1) 0)) : Int) ∧ (True ∧ (if (!(decide ((List.getD (needV p h (List.getD (needV p h x.1) (Int.toNat i_1) 0)) (Int.toNat j_2) 0) ∈ (needV p h x.1)))) = true then (false = y0 ∧ True) else (inI (j_2 + (1 : Int)) ∧ Λ2 i_1 (j_2 + (1 : Int)))))) else (inI (i_1 + (1 : Int)) ∧ Λ1 (i_1 + (1 : Int)))
theorem cStoryMutual_law (h : ∀ (p : (List Lin)) (h : (List (List Edt))) (x : Two7), cStoryMutual.A.wf (p, h, x, ()) → ∀ (Λ1 : Int → Prop) (Λ2 : Int → Int → Prop), (∀ (i_1 : Int), cStoryMutual_1 Λ1 Λ2 p h x true i_1 → Λ1 i_1) → (∀ (i_1 : Int) (j_2 : Int), cStoryMutual_2 Λ1 Λ2 p h x true i_1 j_2 → Λ2 i_1 j_2) → cStoryMutual_0 Λ1 Λ2 p h x true) : ConOK Go.Proofs.Try.prog 3 cStoryMutual := by
  refine lawL (Γ := [(19, cHas4), (15, cLong7), (18, cNeededP), (17, cNeedsP), (16, cSane7)]) (Θ := Th) (n := 95) [([1, 1, 1, 1, 1, 1, 0, 1, 0], ⟨[(0, false), (1, false), (7, false), (8, false), (9, true), (11, true), (13, true)], []⟩), ([1, 1, 1, 1, 1, 1, 0, 1, 0, 0, 1, 0, 0, 1, 1, 1, 0], ⟨[(0, false), (1, false), (7, false), (8, false), (9, true), (11, true), (13, true), (14, true), (16, true), (65, true), (66, true), (67, true), (68, true), (69, false), (70, true)], []⟩)] ⟨cHas4_ok, cLong7_ok, cNeededP_ok, cNeedsP_ok, cSane7_ok, trivial⟩ (by kernel_rfl) th_ok mix_ok Go.Proofs.Try.func3 (by kernel_rfl) ?_
  intro x hw hp Λ hC
  have h0 := h x.1 x.2.1 x.2.2.1 hw (fun i_1 => Λ [1, 1, 1, 1, 1, 1, 0, 1, 0] ([(0, .d false (.sl tL) x.1), (1, .d false (.sl (.sl tEd)) x.2.1), (7, .d false .int x.2.2.1.1), (8, .d false .int x.2.2.1.2.1), (9, .d true (.sl .int) (needV x.1 x.2.1 x.2.2.1.1)), (11, .d true (.sl .int) (neededV x.1 x.2.1 x.2.2.1.2.1)), (13, .d true .int i_1)], [])) (fun i_1 j_2 => Λ [1, 1, 1, 1, 1, 1, 0, 1, 0, 0, 1, 0, 0, 1, 1, 1, 0] ([(0, .d false (.sl tL) x.1), (1, .d false (.sl (.sl tEd)) x.2.1), (7, .d false .int x.2.2.1.1), (8, .d false .int x.2.2.1.2.1), (9, .d true (.sl .int) (needV x.1 x.2.1 x.2.2.1.1)), (11, .d true (.sl .int) (neededV x.1 x.2.1 x.2.2.1.2.1)), (13, .d true .int i_1), (14, .d true (.sl .int) (needV x.1 x.2.1 (List.getD (needV x.1 x.2.1 x.2.2.1.1) (Int.toNat i_1) 0))), (16, .d true .int j_2), (65, .d true (.sl .int) (needV x.1 x.2.1 x.2.2.1.1)), (66, .d true .int i_1), (67, .ept true .int (List.getD (needV x.1 x.2.1 x.2.2.1.1) (Int.toNat i_1) 0)), (68, .d true .int (List.getD (needV x.1 x.2.1 x.2.2.1.1) (Int.toNat i_1) 0)), (69, .d false .int x.2.2.1.1), (70, .d true .bool (decide ((List.getD (needV x.1 x.2.1 x.2.2.1.1) (Int.toNat i_1) 0) ≥ x.2.2.1.1)))], [])) (fun i_1 hb => hC [1, 1, 1, 1, 1, 1, 0, 1, 0] ([(0, .d false (.sl tL) x.1), (1, .d false (.sl (.sl tEd)) x.2.1), (7, .d false .int x.2.2.1.1), (8, .d false .int x.2.2.1.2.1), (9, .d true (.sl .int) (needV x.1 x.2.1 x.2.2.1.1)), (11, .d true (.sl .int) (neededV x.1 x.2.1 x.2.2.1.2.1)), (13, .d true .int i_1)], []) (Eq.mpr (by kernel_rfl) hb)) (fun i_1 j_2 hb => hC [1, 1, 1, 1, 1, 1, 0, 1, 0, 0, 1, 0, 0, 1, 1, 1, 0] ([(0, .d false (.sl tL) x.1), (1, .d false (.sl (.sl tEd)) x.2.1), (7, .d false .int x.2.2.1.1), (8, .d false .int x.2.2.1.2.1), (9, .d true (.sl .int) (needV x.1 x.2.1 x.2.2.1.1)), (11, .d true (.sl .int) (neededV x.1 x.2.1 x.2.2.1.2.1)), (13, .d true .int i_1), (14, .d true (.sl .int) (needV x.1 x.2.1 (List.getD (needV x.1 x.2.1 x.2.2.1.1) (Int.toNat i_1) 0))), (16, .d true .int j_2), (65, .d true (.sl .int) (needV x.1 x.2.1 x.2.2.1.1)), (66, .d true .int i_1), (67, .ept true .int (List.getD (needV x.1 x.2.1 x.2.2.1.1) (Int.toNat i_1) 0)), (68, .d true .int (List.getD (needV x.1 x.2.1 x.2.2.1.1) (Int.toNat i_1) 0)), (69, .d false .int x.2.2.1.1), (70, .d true .bool (decide ((List.getD (needV x.1 x.2.1 x.2.2.1.1) (Int.toNat i_1) 0) ≥ x.2.2.1.1)))], []) (Eq.mpr (by kernel_rfl) hb))
  exact Eq.mpr (by kernel_rfl) h0
theorem cStoryMutual_ok : ConOK Go.Proofs.Try.prog 3 cStoryMutual := by
  refine cStoryMutual_law ?_
  intro p h x hw Λ1 Λ2 h1 h2
  unfold cStoryMutual_0
  refine ⟨trivial, ?_⟩
  split
  · exact ⟨trivial, rfl, trivial⟩
  · refine ⟨trivial, trivial, ?_⟩
    by_cases e1 : nE p h x.1 = 0
    · rw [if_neg (by simp [e1])]
      refine ⟨trivial, ?_⟩
      by_cases e2 : nE p h x.2.1 = 0
      · rw [if_neg (by simp [e2])]
        have n1 := okN_at (nE_iff.1 e1)
        have n2 := okN_at (nE_iff.1 e2)
        refine upto (n := (needV p h x.1).length) (Q := fun i => Λ1 (i : Int)) ?_ ?_ 0 (Nat.zero_le _)
        · apply h1; unfold cStoryMutual_1; rw [if_neg (by simp)]
          refine ⟨trivial, trivial, ?_⟩
          rw [if_pos ?_]
          · exact ⟨trivial, trivial, rfl, trivial⟩
          · rw [beq_iff_eq, decide_eq_decide, needV_mem, neededV_mem]
            constructor
            · rintro ⟨_, k, h1, h2⟩
              exact ⟨nE_iff.1 e2, x.1.toNat, by omega, by omega, by rw [h1, Int.toNat_natCast]; exact h2⟩
            · rintro ⟨_, k, _, h1, h2⟩
              exact ⟨nE_iff.1 e1, x.2.1.toNat, by omega, by rw [h1, Int.toNat_natCast]; exact h2⟩
        · intro i hi ih
          have hm : List.getD (needV p h x.1) i 0 ∈ needV p h x.1 := mem_getD hi
          obtain ⟨_, k, hk, hk2⟩ := needV_mem.1 hm
          have hkl := need_lt hk2
          have l8 := needV_len p h x.1
          apply h1; unfold cStoryMutual_1; rw [if_pos (by simpa using hi), Int.toNat_natCast, hk]
          have ek : nE p h (k : Int) = 0 := nE_iff.2 ⟨(nE_iff.1 e1).1, within_iff.2 ⟨by omega, by omega⟩⟩
          refine ⟨idx_nat hi, trivial, ?_⟩
          rw [if_neg (by simp [ek])]
          refine ⟨idx_nat hi, trivial, ?_⟩
          rw [if_neg (by show ¬ decide _ = true; rw [decide_eq_true_eq]; omega)]
          have l9 := needV_len p h (k : Int)
          refine upto (n := (needV p h (k : Int)).length) (Q := fun j => Λ2 (i : Int) (j : Int)) ?_ ?_ 0 (Nat.zero_le _)
          · apply h2; unfold cStoryMutual_2; rw [Int.toNat_natCast, hk, if_neg (by simp)]
            exact ⟨inI_succ hi (by omega), ih⟩
          · intro j hj ihj
            apply h2; unfold cStoryMutual_2; rw [Int.toNat_natCast, hk, Int.toNat_natCast, if_pos (by simpa using hj)]
            refine ⟨idx_nat hj, trivial, ?_⟩
            have hm2 : List.getD (needV p h (k : Int)) j 0 ∈ needV p h (k : Int) := mem_getD hj
            obtain ⟨_, m, hm3, hm4⟩ := needV_mem.1 hm2
            have hin : List.getD (needV p h (k : Int)) j 0 ∈ needV p h x.1 := needV_mem.2 ⟨nE_iff.1 e1, m, hm3, need_trans hk2 (by rw [Int.toNat_natCast] at hm4; exact hm4)⟩
            rw [if_neg (by rw [decide_eq_true hin]; simp)]
            exact ⟨inI_succ hj (by omega), ihj⟩
      · rw [if_pos (by simpa using e2)]
        exact ⟨trivial, rfl, trivial⟩
    · rw [if_pos (by simpa using e1)]
      exact ⟨rfl, trivial, rfl, trivial⟩
abbrev cStoryReverts : Con := { A := (.cons (.sl tL) (.cons (.sl (.sl tEd)) (.cons (.sl .int) .nil))), R := (.cons .bool .nil), pre := fun x => True, F := fun x => (true, ()) }
def cStoryReverts_0 (Λ1 : Int → (List Int) → Prop) (p : (List Lin)) (h : (List (List Edt))) (set_ : (List Int)) (y0 : Bool) : Prop :=
  True ∧ (if (decide (∃ x' ∈ h, 50 < x'.length) || decide (100 < p.length) || decide (50 < h.length)) = true then (true = true ∧ (True ∧ (true = y0 ∧ True))) else (True ∧ (if (bif false then true else (decide ((List.length set_ : Int) > (50 : Int)))) = true then (True ∧ (true = y0 ∧ True)) else (True ∧ (True ∧ ((revP p h set_).length ≤ 1000000 ∧ (if (!(decide ((revP p h set_) = (revP p h set_)))) = true then (true = true ∧ (true = true ∧ (false = y0 ∧ True))) else ((revL p h set_).length ≤ 1000000 ∧ (True ∧ (if (bif false then true else (!(decide ((revL p h set_) = (revL p h set_))))) = true then (true = true ∧ (false = y0 ∧ True)) else (True ∧ (if (bif false then true else ((revE p h set_) != (revE p h set_))) = true then (false = y0 ∧ True) else (if ((revE p h set_) != (0 : Int)) = true then (True ∧ (true = y0 ∧ True)) else Λ1 (0 : Int) ([] : List Int))))))))))))))
def cStoryReverts_1 (Λ1 : Int → (List Int) → Prop) (p : (List Lin)) (h : (List (List Edt))) (set_ : (List Int)) (y0 : Bool)  (i_1 : Int) (every_1 : (List Int)) : Prop :=
  if (decide (i_1 < (List.length h : Int))) = true then (List.length every_1 + List.length [i_1] ≤ 4294967296 ∧ (inI (i_1 + (1 : Int)) ∧ Λ1 (i_1 + (1 : Int)) (every_1 ++ [i_1]))) else (True ∧ (True ∧ (True ∧ (if ((revE p h every_1) == (0 : Int)) = true then ((revP p h every_1).length ≤ 1000000 ∧ (True ∧ (if (bif true then (decide ((revP p h every_1) = p)) else false) = true then (True ∧ (if (bif true then ((List.length (revL p h every_1) : Int) == (0 : Int)) else false) = true then (True ∧ (if (bif true then ((revE p h ([] : List Int)) == (0 : Int)) else false) = true then (True ∧ (if (bif true then ((err7 p h) == (0 : Int)) else false) = true then ((revP p h ([] : List Int)).length ≤ 1000000 ∧ (True ∧ (if (bif true then (decide ((revP p h ([] : List Int)) = ((if err7 p h = 0 then playH p h else [])))) else false) = true then ((revL p h ([] : List Int)).length ≤ 1000000 ∧ (True ∧ (if (bif true then (decide ((revL p h ([] : List Int)) = every_1)) else false) = true then (True ∧ (True ∧ ((bif true then true else false) = y0 ∧ True))) else (false = false ∧ (false = y0 ∧ True))))) else (false = false ∧ (false = false ∧ (false = y0 ∧ True)))))) else (false = false ∧ (false = false ∧ (false = false ∧ (false = y0 ∧ True)))))) else (false = false ∧ (false = false ∧ (false = false ∧ (false = false ∧ (false = y0 ∧ True))))))) else (false = false ∧ (false = false ∧ (false = false ∧ (false = false ∧ (false = false ∧ (false = y0 ∧ True)))))))) else (false = false ∧ (false = false ∧ (false = false ∧ (false = false ∧ (false = false ∧ (false = false ∧ (false = y0 ∧ True)))))))))) else (false = false ∧ (false = false ∧ (false = false ∧ (false = false ∧ (false = false ∧ (false = false ∧ (false = false ∧ (false = y0 ∧ True))))))))))))
theorem cStoryReverts_law (h : ∀ (p : (List Lin)) (h : (List (List Edt))) (set_ : (List Int)), cStoryReverts.A.wf (p, h, set_, ()) → ∀ (Λ1 : Int → (List Int) → Prop), (∀ (i_1 : Int) (every_1 : (List Int)), cStoryReverts_1 Λ1 p h set_ true i_1 every_1 → Λ1 i_1 every_1) → cStoryReverts_0 Λ1 p h set_ true) : ConOK Go.Proofs.Try.prog 4 cStoryReverts := by
  refine lawL (Γ := [(15, cLong7), (24, cPlay), (20, cRevertG), (21, cRevertR), (23, cSameInts4), (22, cSameL4), (16, cSane7)]) (Θ := Th) (n := 130) [([1, 1, 1, 1, 1, 1, 1, 0, 1, 0], ⟨[(0, false), (1, false), (13, true), (14, true)], [(13, true)]⟩)] ⟨cLong7_ok, cPlay_ok, cRevertG_ok, cRevertR_ok, cSameInts4_ok, cSameL4_ok, cSane7_ok, trivial⟩ (by kernel_rfl) th_ok mix_ok Go.Proofs.Try.func4 (by kernel_rfl) ?_
  intro x hw hp Λ hC
  have h0 := h x.1 x.2.1 x.2.2.1 hw (fun i_1 every_1 => Λ [1, 1, 1, 1, 1, 1, 1, 0, 1, 0] ([(0, .d false (.sl tL) x.1), (1, .d false (.sl (.sl tEd)) x.2.1), (13, .own 13 0), (14, .d true .int i_1)], [(13, .sl true .int every_1)])) (fun i_1 every_1 hb => hC [1, 1, 1, 1, 1, 1, 1, 0, 1, 0] ([(0, .d false (.sl tL) x.1), (1, .d false (.sl (.sl tEd)) x.2.1), (13, .own 13 0), (14, .d true .int i_1)], [(13, .sl true .int every_1)]) (Eq.mpr (by kernel_rfl) hb))
  exact Eq.mpr (by kernel_rfl) h0
theorem cStoryReverts_ok : ConOK Go.Proofs.Try.prog 4 cStoryReverts := by
  refine cStoryReverts_law ?_
  intro p h set_ hw Λ1 h1
  unfold cStoryReverts_0
  have l1 : ∀ s, (revP p h s).length ≤ 1000000 := fun s => by have := revP_len p h s; omega
  have l2 : ∀ s, (revL p h s).length ≤ 1000000 := fun s => by have := revL_len p h s; omega
  refine ⟨trivial, ?_⟩
  split
  · exact ⟨rfl, trivial, rfl, trivial⟩
  · refine ⟨trivial, ?_⟩
    split
    · exact ⟨trivial, rfl, trivial⟩
    · refine ⟨trivial, trivial, l1 _, ?_⟩
      rw [if_neg (by simp)]
      refine ⟨l2 _, trivial, ?_⟩
      rw [if_neg (by simp)]
      refine ⟨trivial, ?_⟩
      rw [if_neg (by simp)]
      by_cases e : revE p h set_ = 0
      · rw [if_neg (by simp [e])]
        have e7 := (revE_iff.1 e).1
        have h8 := (err7_ok e7).2.1
        refine upto (n := h.length) (Q := fun i => Λ1 (i : Int) (upI i)) ?_ ?_ 0 (Nat.zero_le _)
        · apply h1; unfold cStoryReverts_1; rw [if_neg (by simp)]
          obtain ⟨a1, a2, a3⟩ := rev_all e7
          obtain ⟨b1, b2, b3⟩ := rev_nil e7
          have c1 := l1 []
          have c2 := l2 []
          have c3 : p.length ≤ 1000000 := by have := l1 (upI h.length); rw [a2] at this; exact this
          rw [b2] at c1
          rw [b3] at c2
          rw [a1, a2, a3, b1, b2, b3, if_pos e7]
          simp [e7, c1, c2, c3]
        · intro i hi ih
          apply h1; unfold cStoryReverts_1; rw [if_pos (by simpa using hi)]
          exact ⟨by rw [upI_len]; simp only [List.length_cons, List.length_nil]; omega, inI_succ hi (by omega), ih⟩
      · rw [if_pos (by simpa using e)]
        exact ⟨trivial, rfl, trivial⟩
abbrev cStoryLeaves : Con := { A := (.cons (.sl tL) (.cons (.sl (.sl tEd)) (.cons (.sl .int) .nil))), R := (.cons .bool .nil), pre := fun x => True, F := fun x => (true, ()) }
def cStoryLeaves_0 (Λ1 : Int → (List (List Edt)) → Prop) (Λ2 : (List (List Edt)) → Int → Int → Prop) (p : (List Lin)) (h : (List (List Edt))) (set_ : (List Int)) (y0 : Bool) : Prop :=
  True ∧ (if (decide (∃ x' ∈ h, 50 < x'.length) || decide (100 < p.length) || decide (50 < h.length)) = true then (true = true ∧ (True ∧ (true = y0 ∧ True))) else (True ∧ (if (bif false then true else (decide ((List.length set_ : Int) > (50 : Int)))) = true then (True ∧ (true = y0 ∧ True)) else (True ∧ (if ((revE p h set_) != (0 : Int)) = true then (True ∧ (true = y0 ∧ True)) else Λ1 (0 : Int) ([] : List (List Edt)))))))
def cStoryLeaves_1 (Λ1 : Int → (List (List Edt)) → Prop) (Λ2 : (List (List Edt)) → Int → Int → Prop) (p : (List Lin)) (h : (List (List Edt))) (set_ : (List Int)) (y0 : Bool)  (i_1 : Int) (few_1 : (List (List Edt))) : Prop :=
  if (decide (i_1 < (List.length (revL p h set_) : Int))) = true then (idx i_1 (List.length (revL p h set_) : Int) ∧ (if (decide ((List.getD (revL p h set_) (Int.toNat i_1) 0) < (0 : Int))) = true then (true = true ∧ (true = true ∧ (false = y0 ∧ True))) else (idx i_1 (List.length (revL p h set_) : Int) ∧ (True ∧ (if (bif false then true else (decide ((List.getD (revL p h set_) (Int.toNat i_1) 0) ≥ (List.length h : Int)))) = true then (true = true ∧ (false = y0 ∧ True)) else (idx i_1 (List.length (revL p h set_) : Int) ∧ (True ∧ (True ∧ (if (bif false then true else (decide ((List.getD (revL p h set_) (Int.toNat i_1) 0) ∈ set_))) = true then (false = y0 ∧ True) else (idx i_1 (List.length (revL p h set_) : Int) ∧ (True ∧ (if ((nE p h (List.getD (revL p h set_) (Int.toNat i_1) 0)) != (0 : Int)) = true then (false = y0 ∧ True) else Λ2 few_1 i_1 (0 : Int))))))))))))) else (True ∧ (if ((err7 p few_1) == (0 : Int)) = true then ((revP p h set_).length ≤ 1000000 ∧ (True ∧ (if (bif true then (decide ((revP p h set_) = ((if err7 p few_1 = 0 then playH p few_1 else [])))) else false) = true then (True ∧ (True ∧ ((bif true then true else false) = y0 ∧ True))) else (false = false ∧ (false = y0 ∧ True))))) else (false = false ∧ (false = false ∧ (false = y0 ∧ True)))))
def cStoryLeaves_2 (Λ1 : Int → (List (List Edt)) → Prop) (Λ2 : (List (List Edt)) → Int → Int → Prop) (p : (List Lin)) (h : (List (List Edt))) (set_ : (List Int)) (y0 : Bool) (few_1 : (List (List Edt))) (i_1 : Int) (k_2 : Int) : Prop :=
  if (decide (k_2 < (List.length (needV p h (List.getD (revL p h set_) (Int.toNat i_1) 0)) : Int))) = true then (idx k_2 (List.length (needV p h (List.getD (revL p h set_) (Int.toNat i_1) 0)) : Int) ∧ (True ∧ (if (!(decide ((List.getD (needV p h (List.getD (revL p h set_) (Int.toNat i_1) 0)) (Int.toNat k_2) 0) ∈ (revL p h set_)))) = true then (false = y0 ∧ True) else (inI (k_2 + (1 : Int)) ∧ Λ2 few_1 i_1 (k_2 + (1 : Int)))))) else (idx i_1 (List.length (revL p h set_) : Int) ∧ (idx (List.getD (revL p h set_) (Int.toNat i_1) 0) (List.length h : Int) ∧ (List.length few_1 + List.length ([(List.getD h (Int.toNat (List.getD (revL p h set_) (Int.toNat i_1) 0)) ([] : List Edt))]) ≤ 4294967296 ∧ (inI (i_1 + (1 : Int)) ∧ Λ1 (i_1 + (1 : Int)) (few_1 ++ [(List.getD h (Int.toNat (List.getD (revL p h set_) (Int.toNat i_1) 0)) ([] : List Edt))])))))
theorem cStoryLeaves_law (h : ∀ (p : (List Lin)) (h : (List (List Edt))) (set_ : (List Int)), cStoryLeaves.A.wf (p, h, set_, ()) → ∀ (Λ1 : Int → (List (List Edt)) → Prop) (Λ2 : (List (List Edt)) → Int → Int → Prop), (∀ (i_1 : Int) (few_1 : (List (List Edt))), cStoryLeaves_1 Λ1 Λ2 p h set_ true i_1 few_1 → Λ1 i_1 few_1) → (∀ (few_1 : (List (List Edt))) (i_1 : Int) (k_2 : Int), cStoryLeaves_2 Λ1 Λ2 p h set_ true few_1 i_1 k_2 → Λ2 few_1 i_1 k_2) → cStoryLeaves_0 Λ1 Λ2 p h set_ true) : ConOK Go.Proofs.Try.prog 5 cStoryLeaves := by
  refine lawL (Γ := [(19, cHas4), (15, cLong7), (17, cNeedsP), (24, cPlay), (20, cRevertG), (22, cSameL4), (16, cSane7)]) (Θ := Th) (n := 116) [([1, 1, 1, 1, 1, 0, 1, 0], ⟨[(0, false), (1, false), (2, false), (7, true), (8, true), (10, true), (11, true)], [(10, false), (30, true)]⟩), ([1, 1, 1, 1, 1, 0, 1, 0, 0, 1, 0, 0, 1, 1, 1, 0, 1, 0], ⟨[(0, false), (1, false), (2, false), (7, true), (8, true), (10, true), (11, true), (12, true), (14, true), (49, true), (50, true), (51, true), (52, true), (53, false), (54, true), (55, true), (58, false), (59, true), (60, true), (61, true), (62, true), (63, true)], [(10, false), (30, true)]⟩)] ⟨cHas4_ok, cLong7_ok, cNeedsP_ok, cPlay_ok, cRevertG_ok, cSameL4_ok, cSane7_ok, trivial⟩ (by kernel_rfl) th_ok mix_ok Go.Proofs.Try.func5 (by kernel_rfl) ?_
  intro x hw hp Λ hC
  have h0 := h x.1 x.2.1 x.2.2.1 hw (fun i_1 few_1 => Λ [1, 1, 1, 1, 1, 0, 1, 0] ([(0, .d false (.sl tL) x.1), (1, .d false (.sl (.sl tEd)) x.2.1), (2, .d false (.sl .int) x.2.2.1), (7, .own 30 0), (8, .d true (.sl .int) (revL x.1 x.2.1 x.2.2.1)), (10, .own 10 0), (11, .d true .int i_1)], [(10, .sl false (.sl tEd) few_1), (30, .sl true tL (revP x.1 x.2.1 x.2.2.1))])) (fun few_1 i_1 k_2 => Λ [1, 1, 1, 1, 1, 0, 1, 0, 0, 1, 0, 0, 1, 1, 1, 0, 1, 0] ([(0, .d false (.sl tL) x.1), (1, .d false (.sl (.sl tEd)) x.2.1), (2, .d false (.sl .int) x.2.2.1), (7, .own 30 0), (8, .d true (.sl .int) (revL x.1 x.2.1 x.2.2.1)), (10, .own 10 0), (11, .d true .int i_1), (12, .d true (.sl .int) (needV x.1 x.2.1 (List.getD (revL x.1 x.2.1 x.2.2.1) (Int.toNat i_1) 0))), (14, .d true .int k_2), (49, .d true (.sl .int) (revL x.1 x.2.1 x.2.2.1)), (50, .d true .int i_1), (51, .ept true .int (List.getD (revL x.1 x.2.1 x.2.2.1) (Int.toNat i_1) 0)), (52, .d true .int (List.getD (revL x.1 x.2.1 x.2.2.1) (Int.toNat i_1) 0)), (53, .d false (.sl (.sl tEd)) x.2.1), (54, .d true .int (List.length x.2.1 : Int)), (55, .d true .bool (decide ((List.getD (revL x.1 x.2.1 x.2.2.1) (Int.toNat i_1) 0) ≥ (List.length x.2.1 : Int)))), (58, .d false (.sl .int) x.2.2.1), (59, .d true (.sl .int) (revL x.1 x.2.1 x.2.2.1)), (60, .d true .int i_1), (61, .ept true .int (List.getD (revL x.1 x.2.1 x.2.2.1) (Int.toNat i_1) 0)), (62, .d true .int (List.getD (revL x.1 x.2.1 x.2.2.1) (Int.toNat i_1) 0)), (63, .d true .bool (decide ((List.getD (revL x.1 x.2.1 x.2.2.1) (Int.toNat i_1) 0) ∈ x.2.2.1)))], [(10, .sl false (.sl tEd) few_1), (30, .sl true tL (revP x.1 x.2.1 x.2.2.1))])) (fun i_1 few_1 hb => hC [1, 1, 1, 1, 1, 0, 1, 0] ([(0, .d false (.sl tL) x.1), (1, .d false (.sl (.sl tEd)) x.2.1), (2, .d false (.sl .int) x.2.2.1), (7, .own 30 0), (8, .d true (.sl .int) (revL x.1 x.2.1 x.2.2.1)), (10, .own 10 0), (11, .d true .int i_1)], [(10, .sl false (.sl tEd) few_1), (30, .sl true tL (revP x.1 x.2.1 x.2.2.1))]) (Eq.mpr (by kernel_rfl) hb)) (fun few_1 i_1 k_2 hb => hC [1, 1, 1, 1, 1, 0, 1, 0, 0, 1, 0, 0, 1, 1, 1, 0, 1, 0] ([(0, .d false (.sl tL) x.1), (1, .d false (.sl (.sl tEd)) x.2.1), (2, .d false (.sl .int) x.2.2.1), (7, .own 30 0), (8, .d true (.sl .int) (revL x.1 x.2.1 x.2.2.1)), (10, .own 10 0), (11, .d true .int i_1), (12, .d true (.sl .int) (needV x.1 x.2.1 (List.getD (revL x.1 x.2.1 x.2.2.1) (Int.toNat i_1) 0))), (14, .d true .int k_2), (49, .d true (.sl .int) (revL x.1 x.2.1 x.2.2.1)), (50, .d true .int i_1), (51, .ept true .int (List.getD (revL x.1 x.2.1 x.2.2.1) (Int.toNat i_1) 0)), (52, .d true .int (List.getD (revL x.1 x.2.1 x.2.2.1) (Int.toNat i_1) 0)), (53, .d false (.sl (.sl tEd)) x.2.1), (54, .d true .int (List.length x.2.1 : Int)), (55, .d true .bool (decide ((List.getD (revL x.1 x.2.1 x.2.2.1) (Int.toNat i_1) 0) ≥ (List.length x.2.1 : Int)))), (58, .d false (.sl .int) x.2.2.1), (59, .d true (.sl .int) (revL x.1 x.2.1 x.2.2.1)), (60, .d true .int i_1), (61, .ept true .int (List.getD (revL x.1 x.2.1 x.2.2.1) (Int.toNat i_1) 0)), (62, .d true .int (List.getD (revL x.1 x.2.1 x.2.2.1) (Int.toNat i_1) 0)), (63, .d true .bool (decide ((List.getD (revL x.1 x.2.1 x.2.2.1) (Int.toNat i_1) 0) ∈ x.2.2.1)))], [(10, .sl false (.sl tEd) few_1), (30, .sl true tL (revP x.1 x.2.1 x.2.2.1))]) (Eq.mpr (by kernel_rfl) hb))
  exact Eq.mpr (by kernel_rfl) h0
theorem cStoryLeaves_ok : ConOK Go.Proofs.Try.prog 5 cStoryLeaves := by
  refine cStoryLeaves_law ?_
  intro p h set_ hw Λ1 Λ2 h1 h2
  unfold cStoryLeaves_0
  refine ⟨trivial, ?_⟩
  split
  · exact ⟨rfl, trivial, rfl, trivial⟩
  · refine ⟨trivial, ?_⟩
    split
    · exact ⟨trivial, rfl, trivial⟩
    · refine ⟨trivial, ?_⟩
      by_cases e : revE p h set_ = 0
      · rw [if_neg (by simp [e])]
        have ok := revE_iff.1 e
        have e7 := ok.1
        have h8 := (err7_ok e7).2.1
        have l8 := revL_len p h set_
        have hl : revL p h set_ = leftN h set_ h.length := if_pos ok
        have hP : revP p h set_ = playH p (leftH h set_ h.length) := if_pos ok
        have lp : (revP p h set_).length ≤ 1000000 := by have := revP_len p h set_; omega
        refine upto (n := (revL p h set_).length) (Q := fun i => Λ1 (i : Int) (((revL p h set_).take i).map fun k => h.getD k.toNat [])) ?_ ?_ 0 (Nat.zero_le _)
        · apply h1; unfold cStoryLeaves_1; rw [if_neg (by simp), List.take_length]
          have ef : ((revL p h set_).map fun k => h.getD k.toNat []) = leftH h set_ h.length := by rw [hl, leftH_map]
          rw [ef]
          have ek : err7 p (leftH h set_ h.length) = 0 := err7_sub e7 (leftH_mem (Nat.le_refl _)) (by have := leftH_len h set_ h.length; omega)
          rw [if_pos ek, ← hP]
          simp [ek, lp]
        · intro i hi ih
          rw [take_snoc 0 hi, List.map_append] at ih
          have hm : List.getD (revL p h set_) i 0 ∈ revL p h set_ := mem_getD hi
          obtain ⟨_, k, k1, k2, k3⟩ := revL_mem.1 hm
          rw [k2] at ih
          have ek : nE p h (k : Int) = 0 := nE_iff.2 ⟨e7, within_iff.2 ⟨by omega, by omega⟩⟩
          have ns : (k : Int) ∉ set_ := by
            intro q
            unfold goneB at k3
            rw [decide_eq_true q] at k3
            cases k3
          have sub : ∀ y ∈ needV p h (k : Int), y ∈ revL p h set_ := by
            intro y hy
            obtain ⟨_, m, m1, m2⟩ := needV_mem.1 hy
            rw [Int.toNat_natCast] at m2
            refine revL_mem.2 ⟨ok, m, by have := need_lt m2; omega, m1, ?_⟩
            cases g : goneB h set_ m
            · rfl
            · exfalso
              unfold goneB at g k3
              rw [Bool.or_eq_true, decide_eq_true_eq] at g
              have k4 := (Bool.or_eq_false_iff.1 k3).2
              rw [List.any_eq_false] at k4
              rcases g with g | g
              · exact k4 _ g (by rw [Int.toNat_natCast]; exact m2)
              · rw [List.any_eq_true] at g
                obtain ⟨s, s1, s2⟩ := g
                exact k4 s s1 (need_trans m2 s2)
          have l9 := needV_len p h (k : Int)
          have lf : (((revL p h set_).take i).map fun k => h.getD k.toNat []).length ≤ 8 := by rw [List.length_map, List.length_take]; omega
          generalize ((revL p h set_).take i).map (fun k => h.getD k.toNat []) = few at ih lf ⊢
          apply h1; unfold cStoryLeaves_1; rw [if_pos (by simpa using hi), Int.toNat_natCast, k2]
          refine ⟨idx_nat hi, ?_⟩
          rw [if_neg (by rw [decide_eq_true_eq]; omega)]
          refine ⟨idx_nat hi, trivial, ?_⟩
          rw [if_neg (by show ¬ decide _ = true; rw [decide_eq_true_eq]; omega)]
          refine ⟨idx_nat hi, trivial, trivial, ?_⟩
          rw [if_neg (by show ¬ decide _ = true; rw [decide_eq_true_eq]; exact ns)]
          refine ⟨idx_nat hi, trivial, ?_⟩
          rw [if_neg (by simp [ek])]
          refine upto (n := (needV p h (k : Int)).length) (Q := fun j => Λ2 few (i : Int) (j : Int)) ?_ ?_ 0 (Nat.zero_le _)
          · apply h2; unfold cStoryLeaves_2; rw [Int.toNat_natCast, k2, if_neg (by simp)]
            exact ⟨idx_nat hi, ⟨by omega, by omega⟩, by simp only [List.length_cons, List.length_nil]; omega, inI_succ hi (by omega), ih⟩
          · intro j hj ihj
            apply h2; unfold cStoryLeaves_2; rw [Int.toNat_natCast, k2, Int.toNat_natCast, if_pos (by simpa using hj)]
            refine ⟨idx_nat hj, trivial, ?_⟩
            rw [if_neg (by rw [decide_eq_true (sub _ (mem_getD hj))]; simp)]
            exact ⟨inI_succ hj (by omega), ihj⟩
      · rw [if_pos (by simpa using e)]
        exact ⟨trivial, rfl, trivial⟩
end Go.Tk
