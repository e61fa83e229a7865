import Derived.Test.YtmedjckknalpbaaC8
import Derived.Test.YtmedjckknalpbaaP8d
set_option linter.unusedSimpArgs false
set_option linter.unusedVariables false
set_option linter.unnecessarySimpa false
namespace Go.Tk
open Go Go.RowKit

abbrev cCloneI : Con := { A := (.cons (.sl .int) .nil), R := (.cons (.osl .int) .nil), pre := fun x => x.1.length ≤ 1000000, F := fun x => (x.1, ()) }
def cCloneI_0  (s : (List Int)) (y0 : (List Int)) : Prop :=
  (s = [] → ([] : List Int) = y0) ∧ (True → (List.length ([] : List Int) + List.length s ≤ 4294967296 ∧ (([] : List Int) ++ s) = y0))
theorem cCloneI_law (h : ∀ (s : (List Int)), cCloneI.A.wf (s, ()) → (s.length ≤ 1000000) → cCloneI_0  s s) : ConOK Go.Proofs.Try.prog 91 cCloneI := by
  refine lawL (Γ := []) (Θ := Th) (n := 8) [] trivial (by kernel_rfl) th_ok mix_ok Go.Proofs.Try.func91 (by kernel_rfl) ?_
  intro x hw hp Λ hC
  have h0 := h x.1 hw hp  
  exact Eq.mpr (by kernel_rfl) h0
theorem cCloneI_ok : ConOK Go.Proofs.Try.prog 91 cCloneI := by
  refine cCloneI_law ?_
  intro s hw hp
  unfold cCloneI_0
  exact ⟨fun h => h.symm, fun _ => ⟨by simp only [List.length_nil]; omega, by simp⟩⟩
abbrev cDelF : InC := { a := .int, B := (.cons (.fn (.cons .int .nil) (.cons .bool .nil)) .nil), pre := fun xs x => ∀ r', r' ∈ xs → x.1.1 (r', ()), F := fun xs x => xs.filter (fun r' => !(x.1.2 (r', ())).1), ret := true }
def cDelF_0 (Λ1 : Int → Int → (List Int) → Prop) (s : (List Int)) (del : (T.fn (.cons .int .nil) (.cons .bool .nil)).den) (y0 : (List Int)) : Prop :=
  (∀ r', r' ∈ s → del.1 (r', ())) ∧ (if ((idxF (fun r' => (del.2 (r', ())).1) s) == (-1 : Int)) = true then s = y0 else (inI ((idxF (fun r' => (del.2 (r', ())).1) s) + (1 : Int)) ∧ Λ1 (idxF (fun r' => (del.2 (r', ())).1) s) ((idxF (fun r' => (del.2 (r', ())).1) s) + (1 : Int)) s))
def cDelF_1 (Λ1 : Int → Int → (List Int) → Prop) (s : (List Int)) (del : (T.fn (.cons .int .nil) (.cons .bool .nil)).den) (y0 : (List Int))  (i_1 : Int) (j_1 : Int) (s_1 : (List Int)) : Prop :=
  if (decide (j_1 < (List.length s_1 : Int))) = true then (idx j_1 (List.length s_1 : Int) ∧ (del.1 ((List.getD s_1 (Int.toNat j_1) 0), ()) ∧ (if (!((del.2 ((List.getD s_1 (Int.toNat j_1) 0), ())).1)) = true then (idx i_1 (List.length s_1 : Int) ∧ (inI (i_1 + (1 : Int)) ∧ (inI (j_1 + (1 : Int)) ∧ Λ1 (i_1 + (1 : Int)) (j_1 + (1 : Int)) (List.set s_1 (Int.toNat i_1) (List.getD s_1 (Int.toNat j_1) 0))))) else (inI (j_1 + (1 : Int)) ∧ Λ1 i_1 (j_1 + (1 : Int)) s_1)))) else ((0 ≤ i_1 ∧ i_1 ≤ (List.length s_1 : Int) ∧ (List.length s_1 : Int) ≤ (List.length s_1 : Int) ∧ (List.length s_1 : Int) ≤ (List.length s_1 : Int)) ∧ (True ∧ ((0 ≤ (0 : Int) ∧ (0 : Int) ≤ i_1 ∧ i_1 ≤ (List.length (List.take (Int.toNat i_1) s_1 ++ List.replicate ((Int.toNat (List.length s_1 : Int)) - (Int.toNat i_1)) 0 ++ List.drop (Int.toNat (List.length s_1 : Int)) s_1) : Int) ∧ (List.length (List.take (Int.toNat i_1) s_1 ++ List.replicate ((Int.toNat (List.length s_1 : Int)) - (Int.toNat i_1)) 0 ++ List.drop (Int.toNat (List.length s_1 : Int)) s_1) : Int) ≤ (List.length (List.take (Int.toNat i_1) s_1 ++ List.replicate ((Int.toNat (List.length s_1 : Int)) - (Int.toNat i_1)) 0 ++ List.drop (Int.toNat (List.length s_1 : Int)) s_1) : Int)) ∧ List.take (Int.toNat i_1) (List.take (Int.toNat i_1) s_1 ++ List.replicate ((Int.toNat (List.length s_1 : Int)) - (Int.toNat i_1)) 0 ++ List.drop (Int.toNat (List.length s_1 : Int)) s_1) = y0)))
theorem cDelF_law (h : ∀ (s : (List Int)) (del : (T.fn (.cons .int .nil) (.cons .bool .nil)).den), (T.sl cDelF.a).wf s → cDelF.B.wf (del, ()) → (∀ r', r' ∈ s → del.1 (r', ())) → ∀ (Λ1 : Int → Int → (List Int) → Prop), (∀ (i_1 : Int) (j_1 : Int) (s_1 : (List Int)), cDelF_1 Λ1 s del (s.filter (fun r' => !(del.2 (r', ())).1)) i_1 j_1 s_1 → Λ1 i_1 j_1 s_1) → cDelF_0 Λ1 s del (s.filter (fun r' => !(del.2 (r', ())).1))) : InF Go.Proofs.Try.prog 66 cDelF := by
  refine lawI (X := { subs := [38, 41], frz := [], U := [], mul := [], nst := [], nls := [], itf := none, inp := [], arrs := [] }) (hX := xok0 _ trivial) (Γ := [(106, cIndexI8)]) (Θ := Th) (n := 42) [([1, 1, 1, 0, 1, 0], ⟨[(0, true), (1, false), (5, true), (6, true)], [(0, false)]⟩)] ⟨cIndexI8_ok, trivial⟩ (by kernel_rfl) th_ok mix_ok Go.Proofs.Try.func66 (by kernel_rfl) ?_
  intro xs x hs hw hp Λ hC
  have h0 := h xs x.1 hs hw hp (fun i_1 j_1 s_1 => Λ [1, 1, 1, 0, 1, 0] ([(0, .own 0 0), (1, .d false (.fn (.cons .int .nil) (.cons .bool .nil)) x.1), (5, .d true .int i_1), (6, .d true .int j_1)], [(0, .sl false .int s_1)])) (fun i_1 j_1 s_1 hb => hC [1, 1, 1, 0, 1, 0] ([(0, .own 0 0), (1, .d false (.fn (.cons .int .nil) (.cons .bool .nil)) x.1), (5, .d true .int i_1), (6, .d true .int j_1)], [(0, .sl false .int s_1)]) (Eq.mpr (by kernel_rfl) hb))
  exact Eq.mpr (by kernel_rfl) h0
theorem cDelF_ok : FunOK Go.Proofs.Try.prog 66 ∧ InF Go.Proofs.Try.prog 66 cDelF := by
  refine ⟨funB_ok (by kernel_rfl), cDelF_law ?_⟩
  intro s del hs hw hp Λ1 h1
  unfold cDelF_0
  have hl : s.length ≤ 140737488355328 := hs.1
  refine ⟨hp, ?_⟩
  generalize hpe : (fun r => (del.2 (r, ())).1) = p
  have hfe : (s.filter fun r => !(del.2 (r, ())).1) = s.filter fun r => !p r := by rw [← hpe]
  rw [hfe]
  rw [hfe] at h1
  rcases idxF_cases 0 p s with ⟨e1, e2⟩ | ⟨k, hk, e1, e2, e3⟩
  · rw [e1, if_pos (by rfl), filter_none e2]
  · rw [e1, if_neg (by simp)]
    refine ⟨by unfold inI; omega, ?_⟩
    obtain ⟨d1, d2⟩ := DelI.start 0 hk e2 e3
    have key : ∀ j, j ≤ s.length → ∀ s1, DelI p s s1 j → Λ1 ((keepK p s j).length : Int) (j : Int) s1 := by
      refine upto ?_ ?_
      · intro s1 hd
        apply h1; unfold cDelF_1
        rw [if_neg (by simp [hd.len])]
        have hkl := keepK_len p s s.length
        refine ⟨⟨by omega, by rw [hd.len]; omega, Int.le_refl _, Int.le_refl _⟩, trivial, ⟨Int.le_refl _, by omega, ?_, Int.le_refl _⟩, ?_⟩
        · simp [hd.len]; omega
        · simp only [Int.toNat_natCast]
          rw [List.take_append_of_le_length (by simp [hd.len]; omega), List.take_append_of_le_length (by simp [hd.len]; omega), List.take_take, Nat.min_self, hd.fst, keepK_all]
      · intro j hj ih s1 hd
        apply h1; unfold cDelF_1
        rw [if_pos (by simp [hd.len]; exact hj)]
        rw [Int.toNat_natCast, hd.get (d := 0) hj]
        have hlt := hd.lt
        refine ⟨⟨by omega, by rw [hd.len]; omega⟩, hp _ (mem_getD hj), ?_⟩
        have hpv : (del.2 (s.getD j 0, ())).1 = p (s.getD j 0) := by rw [← hpe]
        rw [hpv]
        cases hv : p (s.getD j 0)
        · rw [if_pos (by rfl)]
          obtain ⟨g1, g2⟩ := hd.keep (d := 0) hj hv
          have := ih _ g1
          rw [g2] at this
          exact ⟨⟨by omega, by rw [hd.len]; omega⟩, by unfold inI; omega, by unfold inI; omega, by simpa using this⟩
        · rw [if_neg (by simp)]
          obtain ⟨g1, g2⟩ := hd.skip (d := 0) hj hv
          have := ih _ g1
          rw [g2] at this
          exact ⟨by unfold inI; omega, by simpa using this⟩
    have := key (k + 1) (by omega) s d1
    rw [d2] at this
    simpa using this
abbrev cSearch (n : Nat) : PanC := { A1 := (.cons (.sl (.sl .int)) .nil), A2 := (.cons (.sl .int) (.cons .int (.cons .int .nil))), R := (.cons (.sl .int) .nil), ty := 62, pre := fun x z => z.2.2.1.toNat < n ∧ okT x.1 ∧ inT x.1 z.1 ∧ 0 ≤ z.2.1 ∧ z.2.1 ≤ x.1.length ∧ 0 ≤ z.2.2.1 ∧ z.2.2.1 ≤ 90 ∧ z.1.length + z.2.2.1.toNat ≤ 100, F := fun x z => srch x.1 z.2.2.1.toNat z.1 z.2.1.toNat }
def cSearch_0 (Λ1 : Int → Prop) (n : Nat) (t : (List (List Int))) (set_ : (List Int)) (from_ : Int) (more : Int) (y0 : Option ((List Int) × Unit)) : Prop :=
  if (more == (0 : Int)) = true then ((okT t ∧ inT t set_) ∧ (if (coverB t set_) = true then y0 = some (set_, ()) else y0 = none)) else Λ1 from_
def cSearch_1 (Λ1 : Int → Prop) (n : Nat) (t : (List (List Int))) (set_ : (List Int)) (from_ : Int) (more : Int) (y0 : Option ((List Int) × Unit))  (r_1 : Int) : Prop :=
  inI ((List.length t : Int) - more) ∧ (if (decide (r_1 ≤ ((List.length t : Int) - more))) = true then (set_.length ≤ 1000000 ∧ (List.length set_ + List.length [r_1] ≤ 4294967296 ∧ (inI (r_1 + (1 : Int)) ∧ (inI (more - (1 : Int)) ∧ (((more - (1 : Int)).toNat < n ∧ okT t ∧ inT t (set_ ++ [r_1]) ∧ 0 ≤ (r_1 + (1 : Int)) ∧ (r_1 + (1 : Int)) ≤ t.length ∧ 0 ≤ (more - (1 : Int)) ∧ (more - (1 : Int)) ≤ 90 ∧ (set_ ++ [r_1]).length + (more - (1 : Int)).toNat ≤ 100) ∧ ((srch t (more - (1 : Int)).toNat (set_ ++ [r_1]) (r_1 + (1 : Int)).toNat) = none → (inI (r_1 + (1 : Int)) ∧ Λ1 (r_1 + (1 : Int)))) ∧ ∀ yp, (srch t (more - (1 : Int)).toNat (set_ ++ [r_1]) (r_1 + (1 : Int)).toNat) = some yp → y0 = some yp))))) else y0 = none)
theorem cSearch_law {n : Nat} (hr : FunOK Go.Proofs.Try.prog 77 ∧ PanF Go.Proofs.Try.prog 77 (cSearch n)) (h : ∀ (t : (List (List Int))) (set_ : (List Int)) (from_ : Int) (more : Int), (cSearch 0).A1.wf (t, ()) → (cSearch 0).A2.wf (set_, from_, more, ()) → (more.toNat < (n + 1) ∧ okT t ∧ inT t set_ ∧ 0 ≤ from_ ∧ from_ ≤ t.length ∧ 0 ≤ more ∧ more ≤ 90 ∧ set_.length + more.toNat ≤ 100) → ∀ (Λ1 : Int → Prop), (∀ (r_1 : Int), cSearch_1 Λ1 n t set_ from_ more (srch t more.toNat set_ from_.toNat) r_1 → Λ1 r_1) → cSearch_0 Λ1 n t set_ from_ more (srch t more.toNat set_ from_.toNat)) : PanF Go.Proofs.Try.prog 77 (cSearch (n + 1)) := by
  refine lawP (X := { subs := [], frz := [], U := [], mul := [], nst := [], nls := [], itf := none, inp := [], arrs := [], pcs := [(77, cSearch n)] }) (hX := xok0 _ trivial (h5 := ⟨hr, trivial⟩)) (Γ := [(91, cCloneI), (69, cIsCov)]) (Θ := Th) (n := 37) [([1, 1, 0], ⟨[(0, false), (1, true), (3, true), (8, true)], []⟩)] ⟨cCloneI_ok, cIsCov_ok, trivial⟩ (by kernel_rfl) th_ok (by kernel_rfl) mix_ok Go.Proofs.Try.func77 (by kernel_rfl) ?_
  intro x z hw hz hp Λ hC
  have h0 := h x.1 z.1 z.2.1 z.2.2.1 hw hz hp (fun r_1 => Λ [1, 1, 0] ([(0, .d false (.sl (.sl .int)) x.1), (1, .d true (.sl .int) z.1), (3, .d true .int z.2.2.1), (8, .d true .int r_1)], [])) (fun r_1 hb => hC [1, 1, 0] ([(0, .d false (.sl (.sl .int)) x.1), (1, .d true (.sl .int) z.1), (3, .d true .int z.2.2.1), (8, .d true .int r_1)], []) (Eq.mpr (by kernel_rfl) hb))
  exact Eq.mpr (by kernel_rfl) h0
theorem cSearch_ok : ∀ n, FunOK Go.Proofs.Try.prog 77 ∧ PanF Go.Proofs.Try.prog 77 (cSearch n) := by
  intro n
  refine ⟨funB_ok (by kernel_rfl), ?_⟩
  induction n with
  | zero => exact fun w n0 S x z vs us hn hv hu hp => absurd hp (by first | exact fun h => Nat.not_lt_zero _ h.1 | exact fun h => Nat.not_lt_zero _ h)
  | succ n ih =>
  refine cSearch_law ⟨funB_ok (by kernel_rfl), ih⟩ ?_
  clear ih
  intro t set_ from_ more hw hz hp Λ1 h1
  unfold cSearch_0
  obtain ⟨p1, p2, p3, p4, p5, p6, p7, p8⟩ := hp
  have ht := p2.1
  obtain ⟨m, rfl⟩ : ∃ m : Nat, more = m := ⟨more.toNat, by omega⟩
  obtain ⟨f, rfl⟩ : ∃ f : Nat, from_ = f := ⟨from_.toNat, by omega⟩
  simp only [Int.toNat_natCast] at p1 p8 h1 ⊢
  cases m with
  | zero =>
    rw [if_pos (by rfl)]
    refine ⟨⟨p2, p3⟩, ?_⟩
    unfold srch
    cases coverB t set_
    · rw [if_neg (by simp)]; simp
    · rw [if_pos rfl]; simp
  | succ m =>
    rw [if_neg (by simp; omega)]
    have key : ∀ r, r ≤ t.length → f ≤ r → (∀ q, f ≤ q → q < r → q + (m + 1) ≤ t.length → srch t m (set_ ++ [(q : Int)]) (q + 1) = none) → Λ1 (r : Int) := by
      refine upto ?_ ?_
      · intro hf ha
        apply h1; unfold cSearch_1
        refine ⟨by unfold inI; omega, ?_⟩
        rw [if_neg (by simp; omega)]
        exact srch_none fun r q1 q2 => ha r q1 (by omega) q2
      · intro r hr ih hf ha
        apply h1; unfold cSearch_1
        refine ⟨by unfold inI; omega, ?_⟩
        by_cases hc : r + (m + 1) ≤ t.length
        · rw [if_pos (by simp; omega)]
          have e1 : ((r : Int) + 1).toNat = r + 1 := by omega
          have e2 : (((m + 1 : Nat) : Int) - 1).toNat = m := by omega
          rw [e1, e2]
          refine ⟨by omega, by simp; omega, by unfold inI; omega, by unfold inI; omega, ⟨by omega, p2, ?_, by omega, by omega, by omega, by omega, by simp; omega⟩, fun hn => ⟨by unfold inI; omega, ?_⟩, fun yp hy => ?_⟩
          · intro q hq
            rcases List.mem_append.1 hq with hq | hq
            · exact p3 q hq
            · rw [List.mem_singleton] at hq
              subst hq
              omega
          · refine ih (by omega) fun q q1 q2 q3 => ?_
            by_cases hq : q = r
            · subst hq; exact hn
            · exact ha q q1 (by omega) q3
          · exact srch_some (fun q q1 q2 => ha q q1 q2 (by omega)) hf hc hy
        · rw [if_neg (by simp; omega)]
          exact srch_none fun q q1 q2 => ha q q1 (by omega) q2
    exact key f (by omega) (Nat.le_refl _) (fun q q1 q2 => by omega)
abbrev cSets1 : Con := { A := (.cons .int (.cons (.ref .int) .nil)), R := (.cons .bool .nil), pre := fun x => 0 ≤ x.1 ∧ x.1 < 60 ∧ 0 ≤ x.2.1 ∧ x.2.1 < 4294967296, F := fun x => (!(x.2.1.toNat.testBit x.1.toNat), ()) }
def cSets1_0  (k : Int) (c0 : Int) (y0 : Bool) : Prop :=
  (0 ≤ k ∧ k < 64) ∧ (True ∧ (((IntKind.i64.wrap (BitVec.ofInt 64 (Int.fdiv c0 (2 ^ (Int.toNat k))) &&& BitVec.ofInt 64 (1 : Int)).toNat) == (0 : Int)) = y0 ∧ True))
theorem cSets1_law (h : ∀ (k : Int) (c0 : Int), cSets1.A.wf (k, c0, ()) → (0 ≤ k ∧ k < 60 ∧ 0 ≤ c0 ∧ c0 < 4294967296) → cSets1_0  k c0 (!(c0.toNat.testBit k.toNat))) : ConOK Go.Proofs.Try.prog 101 cSets1 := by
  refine lawL (Γ := []) (Θ := Th) (n := 9) [] trivial (by kernel_rfl) th_ok mix_ok Go.Proofs.Try.func101 (by kernel_rfl) ?_
  intro x hw hp Λ hC
  have h0 := h x.1 x.2.1 hw hp  
  exact Eq.mpr (by kernel_rfl) h0
theorem cSets1_ok : ConOK Go.Proofs.Try.prog 101 cSets1 := by
  refine cSets1_law ?_
  intro k c0 hw hp
  unfold cSets1_0
  obtain ⟨p1, p2, p3, p4⟩ := hp
  obtain ⟨b, rfl⟩ : ∃ b : Nat, c0 = b := ⟨c0.toNat, by omega⟩
  refine ⟨⟨p1, by omega⟩, trivial, ?_, trivial⟩
  rw [Int.toNat_natCast]
  exact bit_test b k.toNat (by omega)
theorem setOf_eq (n b : Nat) : ((nums n).filter fun r => !!((b : Int).toNat.testBit r.toNat)) = setOf n b := by
  unfold setOf
  simp only [Bool.not_not, Int.toNat_natCast]
abbrev cSets : Con := { A := (.cons .int .nil), R := (.cons (.sl (.sl .int)) .nil), pre := fun x => 0 ≤ x.1 ∧ x.1 ≤ 10, F := fun x => (setsL x.1.toNat, ()) }
def cSets_0 (Λ1 : Int → (List (List Int)) → Prop) (n : Int) (y0 : (List (List Int))) : Prop :=
  (0 ≤ n ∧ n < 64 ∧ inI ((1 : Int) * 2 ^ (Int.toNat n))) ∧ Λ1 (0 : Int) ([] : List (List Int))
def cSets_1 (Λ1 : Int → (List (List Int)) → Prop) (n : Int) (y0 : (List (List Int)))  (t7_1 : Int) (out_1 : (List (List Int))) : Prop :=
  if (decide (t7_1 < ((1 : Int) * 2 ^ (Int.toNat n)))) = true then ((0 ≤ n ∧ n ≤ 4294967296) ∧ ((∀ r', r' ∈ (nums n.toNat) → (fun (xx : (Int × Unit)) => 0 ≤ xx.1 ∧ xx.1 < 60 ∧ 0 ≤ t7_1 ∧ t7_1 < 4294967296, fun (xx : (Int × Unit)) => (!(t7_1.toNat.testBit xx.1.toNat), ())).1 (r', ())) ∧ (List.length out_1 + List.length [((nums n.toNat).filter (fun r' => !((fun (xx : (Int × Unit)) => 0 ≤ xx.1 ∧ xx.1 < 60 ∧ 0 ≤ t7_1 ∧ t7_1 < 4294967296, fun (xx : (Int × Unit)) => (!(t7_1.toNat.testBit xx.1.toNat), ())).2 (r', ())).1))] ≤ 4294967296 ∧ (inI (t7_1 + (1 : Int)) ∧ Λ1 (t7_1 + (1 : Int)) (out_1 ++ [((nums n.toNat).filter (fun r' => !((fun (xx : (Int × Unit)) => 0 ≤ xx.1 ∧ xx.1 < 60 ∧ 0 ≤ t7_1 ∧ t7_1 < 4294967296, fun (xx : (Int × Unit)) => (!(t7_1.toNat.testBit xx.1.toNat), ())).2 (r', ())).1))]))))) else (out_1 = y0 ∧ True)
theorem cSets_law (h : ∀ (n : Int), cSets.A.wf (n, ()) → (0 ≤ n ∧ n ≤ 10) → ∀ (Λ1 : Int → (List (List Int)) → Prop), (∀ (t7_1 : Int) (out_1 : (List (List Int))), cSets_1 Λ1 n (setsL n.toNat) t7_1 out_1 → Λ1 t7_1 out_1) → cSets_0 Λ1 n (setsL n.toNat)) : ConOK Go.Proofs.Try.prog 58 cSets := by
  refine lawX (X := { subs := [], frz := [], U := [], mul := [], nst := [], nls := [], itf := none, inp := [(66, cDelF)], arrs := [] }) (hX := xok0 _ ⟨cDelF_ok, trivial⟩) (Γ := [(67, cAll8), (101, cSets1)]) (Θ := Th) (n := 19) [([1, 1, 0, 1, 0], ⟨[(0, false), (3, true), (6, true), (7, true)], [(3, true)]⟩)] ⟨cAll8_ok, cSets1_ok, trivial⟩ (by kernel_rfl) th_ok mix_ok Go.Proofs.Try.func58 (by kernel_rfl) ?_
  intro x hw hp Λ hC
  have h0 := h x.1 hw hp (fun t7_1 out_1 => Λ [1, 1, 0, 1, 0] ([(0, .d false .int x.1), (3, .own 3 0), (6, .d true .int ((1 : Int) * 2 ^ (Int.toNat x.1))), (7, .d true .int t7_1)], [(3, .sl true (.sl .int) out_1)])) (fun t7_1 out_1 hb => hC [1, 1, 0, 1, 0] ([(0, .d false .int x.1), (3, .own 3 0), (6, .d true .int ((1 : Int) * 2 ^ (Int.toNat x.1))), (7, .d true .int t7_1)], [(3, .sl true (.sl .int) out_1)]) (Eq.mpr (by kernel_rfl) hb))
  exact Eq.mpr (by kernel_rfl) h0
theorem cSets_ok : ConOK Go.Proofs.Try.prog 58 cSets := by
  refine cSets_law ?_
  intro n hw hp Λ1 h1
  unfold cSets_0
  obtain ⟨m, rfl⟩ : ∃ m : Nat, n = m := ⟨n.toNat, by omega⟩
  simp only [Int.toNat_natCast] at h1 ⊢
  have hm : m ≤ 10 := by omega
  have h2 : 2 ^ m ≤ 1024 := Nat.le_trans (Nat.pow_le_pow_right (by omega) hm) (by decide)
  obtain ⟨N, hN⟩ : ∃ N : Nat, N = 2 ^ m := ⟨_, rfl⟩
  rw [← hN] at h2
  have e : (1 : Int) * 2 ^ m = (N : Int) := by rw [Int.one_mul, hN]; norm_cast
  refine ⟨⟨by omega, by omega, by rw [e]; unfold inI; omega⟩, ?_⟩
  refine upto (n := N) (Q := fun i => Λ1 i ((List.range i).map (setOf m))) ?_ ?_ 0 (Nat.zero_le _)
  · apply h1; unfold cSets_1
    rw [if_neg (by rw [decide_eq_true_eq, Int.toNat_natCast, e]; omega)]
    exact ⟨by unfold setsL; rw [hN], trivial⟩
  · intro i hi ih
    apply h1; unfold cSets_1
    rw [if_pos (by rw [decide_eq_true_eq, Int.toNat_natCast, e]; omega)]
    refine ⟨⟨by omega, by omega⟩, fun r hr => ?_, ?_, by unfold inI; omega, ?_⟩
    · have := nums_mem.1 hr
      exact ⟨this.1, by omega, by omega, by omega⟩
    · simp; omega
    · rw [setsL_take] at ih
      rw [setOf_eq, Int.toNat_natCast]
      exact ih
abbrev cIsNaN : Con := { A := (.cons .int .nil), R := (.cons .bool .nil), pre := fun x => True, F := fun x => (false, ()) }
def cIsNaN_0  (x : Int) (y0 : Bool) : Prop :=
  (x != x) = y0 ∧ True
theorem cIsNaN_law (h : ∀ (x : Int), cIsNaN.A.wf (x, ()) → cIsNaN_0  x false) : ConOK Go.Proofs.Try.prog 115 cIsNaN := by
  refine lawL (Γ := []) (Θ := Th) (n := 6) [] trivial (by kernel_rfl) th_ok mix_ok Go.Proofs.Try.func115 (by kernel_rfl) ?_
  intro x hw hp Λ hC
  have h0 := h x.1 hw  
  exact Eq.mpr (by kernel_rfl) h0
theorem cIsNaN_ok : ConOK Go.Proofs.Try.prog 115 cIsNaN := by
  refine cIsNaN_law ?_
  intro x hw
  unfold cIsNaN_0
  exact ⟨by simp, trivial⟩
abbrev cCmpI : Con := { A := (.cons .int (.cons .int .nil)), R := (.cons .int .nil), pre := fun x => True, F := fun x => (cmpI x.1 x.2.1, ()) }
def cCmpI_0  (x : Int) (y_ : Int) (y0 : Int) : Prop :=
  True ∧ (True ∧ (if (decide (x < y_)) = true then ((-1 : Int) = y0 ∧ True) else (if (decide (x > y_)) = true then ((1 : Int) = y0 ∧ True) else ((0 : Int) = y0 ∧ True))))
theorem cCmpI_law (h : ∀ (x : Int) (y_ : Int), cCmpI.A.wf (x, y_, ()) → cCmpI_0  x y_ (cmpI x y_)) : ConOK Go.Proofs.Try.prog 102 cCmpI := by
  refine lawL (Γ := [(115, cIsNaN)]) (Θ := Th) (n := 20) [] ⟨cIsNaN_ok, trivial⟩ (by kernel_rfl) th_ok mix_ok Go.Proofs.Try.func102 (by kernel_rfl) ?_
  intro x hw hp Λ hC
  have h0 := h x.1 x.2.1 hw  
  exact Eq.mpr (by kernel_rfl) h0
theorem cCmpI_ok : ConOK Go.Proofs.Try.prog 102 cCmpI := by
  refine cCmpI_law ?_
  intro x y_ hw
  unfold cCmpI_0
  unfold cmpI
  refine ⟨trivial, trivial, ?_⟩
  simp only [decide_eq_true_eq]
  split
  · exact ⟨rfl, trivial⟩
  · split
    · exact ⟨rfl, trivial⟩
    · exact ⟨rfl, trivial⟩
abbrev cCmpL : Con := { A := (.cons (.sl .int) (.cons (.sl .int) .nil)), R := (.cons .int .nil), pre := fun x => True, F := fun x => (cmpL x.1 x.2.1, ()) }
def cCmpL_0 (Λ1 : Int → Prop) (s1 : (List Int)) (s2 : (List Int)) (y0 : Int) : Prop :=
  Λ1 (0 : Int)
def cCmpL_1 (Λ1 : Int → Prop) (s1 : (List Int)) (s2 : (List Int)) (y0 : Int)  (t11_1 : Int) : Prop :=
  if (decide (t11_1 < (List.length s1 : Int))) = true then (idx t11_1 (List.length s1 : Int) ∧ (if (decide (t11_1 ≥ (List.length s2 : Int))) = true then ((1 : Int) = y0 ∧ True) else (idx t11_1 (List.length s2 : Int) ∧ (True ∧ (if ((cmpI (List.getD s1 (Int.toNat t11_1) 0) (List.getD s2 (Int.toNat t11_1) 0)) != (0 : Int)) = true then ((cmpI (List.getD s1 (Int.toNat t11_1) 0) (List.getD s2 (Int.toNat t11_1) 0)) = y0 ∧ True) else (inI (t11_1 + (1 : Int)) ∧ Λ1 (t11_1 + (1 : Int)))))))) else (if (decide ((List.length s1 : Int) < (List.length s2 : Int))) = true then ((-1 : Int) = y0 ∧ True) else ((0 : Int) = y0 ∧ True))
theorem cCmpL_law (h : ∀ (s1 : (List Int)) (s2 : (List Int)), cCmpL.A.wf (s1, s2, ()) → ∀ (Λ1 : Int → Prop), (∀ (t11_1 : Int), cCmpL_1 Λ1 s1 s2 (cmpL s1 s2) t11_1 → Λ1 t11_1) → cCmpL_0 Λ1 s1 s2 (cmpL s1 s2)) : ConOK Go.Proofs.Try.prog 59 cCmpL := by
  refine lawL (Γ := [(102, cCmpI)]) (Θ := Th) (n := 36) [([1, 0, 1, 0], ⟨[(0, false), (1, false), (9, false), (10, true), (11, true)], []⟩)] ⟨cCmpI_ok, trivial⟩ (by kernel_rfl) th_ok mix_ok Go.Proofs.Try.func59 (by kernel_rfl) ?_
  intro x hw hp Λ hC
  have h0 := h x.1 x.2.1 hw (fun t11_1 => Λ [1, 0, 1, 0] ([(0, .d false (.sl .int) x.1), (1, .d false (.sl .int) x.2.1), (9, .d false (.sl .int) x.1), (10, .d true .int (List.length x.1 : Int)), (11, .d true .int t11_1)], [])) (fun t11_1 hb => hC [1, 0, 1, 0] ([(0, .d false (.sl .int) x.1), (1, .d false (.sl .int) x.2.1), (9, .d false (.sl .int) x.1), (10, .d true .int (List.length x.1 : Int)), (11, .d true .int t11_1)], []) (Eq.mpr (by kernel_rfl) hb))
  exact Eq.mpr (by kernel_rfl) h0
theorem cCmpL_ok : ConOK Go.Proofs.Try.prog 59 cCmpL := by
  refine cCmpL_law ?_
  intro s1 s2 hw Λ1 h1
  unfold cCmpL_0
  have hl : s1.length ≤ 140737488355328 := hw.1.1
  have key : ∀ i, i ≤ s1.length → i ≤ s2.length → s1.take i = s2.take i → Λ1 (i : Int) := by
    refine upto ?_ ?_
    · intro h2 ha
      apply h1; unfold cCmpL_1
      rw [if_neg (by simp), cmpL_end ha h2]
      by_cases hlt : s1.length < s2.length
      · rw [if_pos (by simpa using hlt), if_pos hlt]; exact ⟨rfl, trivial⟩
      · rw [if_neg (by simpa using hlt), if_neg hlt]; exact ⟨rfl, trivial⟩
    · intro i hi ih h2 ha
      apply h1; unfold cCmpL_1
      rw [if_pos (by simpa using hi), Int.toNat_natCast]
      refine ⟨idx_nat hi, ?_⟩
      by_cases hlt : i < s2.length
      · rw [if_neg (by simpa using hlt)]
        refine ⟨idx_nat hlt, trivial, ?_⟩
        by_cases hv : s1.getD i 0 = s2.getD i 0
        · rw [hv, if_neg (by simp [cmpI])]
          exact ⟨inI_succ hi hl, ih hlt (by rw [take_snoc 0 hi, take_snoc 0 hlt, ha, hv])⟩
        · have hc : cmpI (s1.getD i 0) (s2.getD i 0) ≠ 0 := by
            unfold cmpI
            split
            · omega
            · split
              · omega
              · omega
          rw [if_pos (by rw [bne_iff_ne]; exact hc), cmpL_at ha hi hlt hv]
          exact ⟨rfl, trivial⟩
      · rw [if_pos (by simp; omega), cmpL_gt ha hi (by omega) h2]
        exact ⟨rfl, trivial⟩
  exact key 0 (Nat.zero_le _) (Nat.zero_le _) rfl
end Go.Tk
