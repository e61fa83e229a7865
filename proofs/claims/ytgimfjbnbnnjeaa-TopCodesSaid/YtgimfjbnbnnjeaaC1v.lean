/- Layer 1: Put, Exchange, Rename, Move (contracts for TopCodes). -/
import Derived.Test.YtgimfjbnbnnjeaaC1t
set_option linter.unusedSimpArgs false
set_option linter.unusedVariables false
set_option linter.unnecessarySimpa false
namespace Go.Tk
open Go Go.RowKit
abbrev cCloneL : Con := { A := (.cons (.sl tL) .nil), R := (.cons (.osl tL) .nil), pre := fun x => x.1.length ≤ 1000000, F := fun x => (x.1, ()) }
def cCloneL_0  (s : (List Lin)) (y0 : (List Lin)) : Prop :=
  (s = [] → ([] : List Lin) = y0) ∧ (True → (List.length ([] : List Lin) + List.length s ≤ 4294967296 ∧ (([] : List Lin) ++ s) = y0))
theorem cCloneL_law (h : ∀ (s : (List Lin)), cCloneL.A.wf (s, ()) → (s.length ≤ 1000000) → cCloneL_0  s s) : ConOK Go.Proofs.Try.prog 34 cCloneL := by
  refine lawL (Γ := []) (Θ := Th) (n := 8) [] trivial (by kernel_rfl) th_ok mix_ok Go.Proofs.Try.func34 (by kernel_rfl) ?_
  intro x hw hp Λ hC
  have h0 := h x.1 hw hp  
  exact Eq.mpr (by kernel_rfl) h0
theorem cCloneL_ok : ConOK Go.Proofs.Try.prog 34 cCloneL := by
  refine cCloneL_law ?_
  intro s hw hp
  unfold cCloneL_0
  exact ⟨fun h => h.symm, fun _ => ⟨by simp only [List.length_nil]; omega, by simp⟩⟩
abbrev cIndexN : Con := { A := (.cons (.sl .int) (.cons .int .nil)), R := (.cons .int .nil), pre := fun x => True, F := fun x => (idxF (fun r' => x.2.1 == r') x.1, ()) }
def cIndexN_0 (Λ1 : Int → Prop) (s : (List Int)) (v : Int) (y0 : Int) : Prop :=
  Λ1 (0 : Int)
def cIndexN_1 (Λ1 : Int → Prop) (s : (List Int)) (v : Int) (y0 : Int)  (t8_1 : Int) : Prop :=
  if (decide (t8_1 < (List.length s : Int))) = true then (idx t8_1 (List.length s : Int) ∧ (if (v == (List.getD s (Int.toNat t8_1) 0)) = true then (t8_1 = y0 ∧ True) else (inI (t8_1 + (1 : Int)) ∧ Λ1 (t8_1 + (1 : Int))))) else ((-1 : Int) = y0 ∧ True)
theorem cIndexN_law (h : ∀ (s : (List Int)) (v : Int), cIndexN.A.wf (s, v, ()) → ∀ (Λ1 : Int → Prop), (∀ (t8_1 : Int), cIndexN_1 Λ1 s v (idxF (fun r' => v == r') s) t8_1 → Λ1 t8_1) → cIndexN_0 Λ1 s v (idxF (fun r' => v == r') s)) : ConOK Go.Proofs.Try.prog 58 cIndexN := by
  refine lawL (Γ := []) (Θ := Th) (n := 19) [([1, 0, 1, 0], ⟨[(0, false), (1, false), (7, true), (8, true)], []⟩)] trivial (by kernel_rfl) th_ok mix_ok Go.Proofs.Try.func58 (by kernel_rfl) ?_
  intro x hw hp Λ hC
  have h0 := h x.1 x.2.1 hw (fun t8_1 => Λ [1, 0, 1, 0] ([(0, .d false (.sl .int) x.1), (1, .d false .int x.2.1), (7, .d true .int (List.length x.1 : Int)), (8, .d true .int t8_1)], [])) (fun t8_1 hb => hC [1, 0, 1, 0] ([(0, .d false (.sl .int) x.1), (1, .d false .int x.2.1), (7, .d true .int (List.length x.1 : Int)), (8, .d true .int t8_1)], []) (Eq.mpr (by kernel_rfl) hb))
  exact Eq.mpr (by kernel_rfl) h0
theorem cIndexN_ok : ConOK Go.Proofs.Try.prog 58 cIndexN := by
  refine cIndexN_law ?_
  intro s v hw Λ1 h1
  unfold cIndexN_0
  refine upto (n := s.length) (Q := fun i => (s.take i).any (fun r => v == r) = false → Λ1 i) ?_ ?_ 0 (Nat.zero_le _) rfl
  · intro ha
    rw [List.take_length] at ha
    apply h1; unfold cIndexN_1; rw [if_neg (by simp), idxF_none ha]
    exact ⟨rfl, trivial⟩
  · intro i hi ih ha
    apply h1; unfold cIndexN_1; rw [if_pos (by simpa using hi), Int.toNat_natCast]
    refine ⟨idx_nat hi, ?_⟩
    cases hv : (v == List.getD s i 0)
    · rw [if_neg (by simp)]
      exact ⟨inI_succ hi hw.1.1, ih (any_take_next (p := fun r => v == r) 0 hi ha hv)⟩
    · rw [if_pos (by rfl), idxF_at (p := fun r => v == r) 0 hi ha hv]
      exact ⟨rfl, trivial⟩
abbrev cContN : Con := { A := (.cons (.sl .int) (.cons .int .nil)), R := (.cons .bool .nil), pre := fun x => True, F := fun x => (decide (x.2.1 ∈ x.1), ()) }
def cContN_0  (s : (List Int)) (v : Int) (y0 : Bool) : Prop :=
  True ∧ ((decide ((idxF (fun r' => v == r') s) ≥ (0 : Int))) = y0 ∧ True)
theorem cContN_law (h : ∀ (s : (List Int)) (v : Int), cContN.A.wf (s, v, ()) → cContN_0  s v (decide (v ∈ s))) : ConOK Go.Proofs.Try.prog 46 cContN := by
  refine lawL (Γ := [(58, cIndexN)]) (Θ := Th) (n := 9) [] ⟨cIndexN_ok, trivial⟩ (by kernel_rfl) th_ok mix_ok Go.Proofs.Try.func46 (by kernel_rfl) ?_
  intro x hw hp Λ hC
  have h0 := h x.1 x.2.1 hw  
  exact Eq.mpr (by kernel_rfl) h0
theorem cContN_ok : ConOK Go.Proofs.Try.prog 46 cContN := by
  refine cContN_law ?_
  intro s v hw
  unfold cContN_0
  refine ⟨trivial, ?_, trivial⟩
  rw [idxF_any, Bool.eq_iff_iff]
  simp
def putE (p : List Lin) (at_ : Int) (l : Lin) : Int := if validP p ≠ 0 then validP p else if validLine l = false then 1 else if within at_ 0 ((p.length : Int) - 1) = true then 0 else 4
abbrev cPut : Con := { A := (.cons (.sl tL) (.cons .int (.cons tL .nil))), R := (.cons (.osl tL) (.cons .int .nil)), pre := fun x => True, F := fun x => ((if putE x.1 x.2.1 x.2.2.1 = 0 then x.1.set (x.2.1).toNat x.2.2.1 else []), putE x.1 x.2.1 x.2.2.1, ()) }
def cPut_0  (p : (List Lin)) (at_ : Int) (l : Lin) (y0 : (List Lin)) (y1 : Int) : Prop :=
  True ∧ (if ((validP p) != (0 : Int)) = true then ((validP p) = y1 ∧ ([] : List Lin) = y0) else (True ∧ (if ((argErr (validLine l)) != (0 : Int)) = true then ((argErr (validLine l)) = y1 ∧ ([] : List Lin) = y0) else (inI ((List.length p : Int) - (1 : Int)) ∧ (True ∧ (if (!(within at_ (0 : Int) ((List.length p : Int) - (1 : Int)))) = true then ((4 : Int) = y1 ∧ ([] : List Lin) = y0) else (p.length ≤ 1000000 ∧ (idx at_ (List.length p : Int) ∧ ((0 : Int) = y1 ∧ (List.set p (Int.toNat at_) l) = y0)))))))))
theorem cPut_law (h : ∀ (p : (List Lin)) (at_ : Int) (l : Lin), cPut.A.wf (p, at_, l, ()) → cPut_0  p at_ l (if putE p at_ l = 0 then p.set (at_).toNat l else []) (putE p at_ l)) : ConOK Go.Proofs.Try.prog 12 cPut := by
  refine lawL (Γ := [(34, cCloneL), (32, cValLine), (33, cValP), (21, cWithin1)]) (Θ := Th) (n := 34) [] ⟨cCloneL_ok, cValLine_ok, cValP_ok, cWithin1_ok, trivial⟩ (by kernel_rfl) th_ok mix_ok Go.Proofs.Try.func12 (by kernel_rfl) ?_
  intro x hw hp Λ hC
  have h0 := h x.1 x.2.1 x.2.2.1 hw  
  exact Eq.mpr (by kernel_rfl) h0
theorem cPut_ok : ConOK Go.Proofs.Try.prog 12 cPut := by
  refine cPut_law ?_
  intro p at_ l hw
  unfold cPut_0
  refine ⟨trivial, ?_⟩
  by_cases hv : validP p = 0
  · rw [if_neg (by simp [hv])]
    have h8 := (validP_ok hv).1
    refine ⟨trivial, ?_⟩
    cases hl : validLine l
    · have hE : putE p at_ l = 1 := by unfold putE; rw [if_neg (by simp [hv]), if_pos hl]
      rw [if_pos (by rfl), hE]
      exact ⟨rfl, rfl⟩
    · rw [if_neg (by simp [argErr])]
      refine ⟨by unfold inI; omega, trivial, ?_⟩
      by_cases hw : within at_ 0 ((p.length : Int) - 1) = true
      · have hE : putE p at_ l = 0 := by unfold putE; rw [if_neg (by simp [hv]), if_neg (by rw [hl]; simp), if_pos hw]
        have hr := within_iff.1 hw
        rw [if_neg (by simp [hw]), hE, if_pos rfl]
        exact ⟨by omega, ⟨hr.1, by omega⟩, rfl, rfl⟩
      · have hE : putE p at_ l = 4 := by unfold putE; rw [if_neg (by simp [hv]), if_neg (by rw [hl]; simp), if_neg hw]
        rw [if_pos (by simpa using hw), hE]
        exact ⟨rfl, rfl⟩
  · have hE : putE p at_ l = validP p := by unfold putE; rw [if_pos hv]
    rw [if_pos (by simpa using hv), hE, if_neg hv]
    exact ⟨rfl, rfl⟩
abbrev cTouches1 : Con := { A := (.cons tL (.cons tL .nil)), R := (.cons .bool .nil), pre := fun x => validLine x.1 = true ∧ validLine x.2.1 = true, F := fun x => (touchB x.1 x.2.1, ()) }
def cTouches1_0  (l : Lin) (m : Lin) (y0 : Bool) : Prop :=
  True ∧ (if (!(writes l)) = true then (false = y0 ∧ True) else (True ∧ (if (writes m) = true then (True ∧ (if (bif true then (((if writes m then m.2.1 else 0)) == ((if writes l then l.2.1 else 0))) else false) = true then (true = true ∧ (true = y0 ∧ True)) else (validLine m = true ∧ (True ∧ (True ∧ ((bif false then true else (decide (((if writes l then l.2.1 else 0)) ∈ (readsL m)))) = y0 ∧ True)))))) else (false = false ∧ (validLine m = true ∧ (True ∧ (True ∧ ((bif false then true else (decide (((if writes l then l.2.1 else 0)) ∈ (readsL m)))) = y0 ∧ True))))))))
theorem cTouches1_law (h : ∀ (l : Lin) (m : Lin), cTouches1.A.wf (l, m, ()) → (validLine l = true ∧ validLine m = true) → cTouches1_0  l m (touchB l m)) : ConOK Go.Proofs.Try.prog 57 cTouches1 := by
  refine lawL (Γ := [(46, cContN), (30, cReads), (23, cWrites1)]) (Θ := Th) (n := 33) [] ⟨cContN_ok, cReads_ok, cWrites1_ok, trivial⟩ (by kernel_rfl) th_ok mix_ok Go.Proofs.Try.func57 (by kernel_rfl) ?_
  intro x hw hp Λ hC
  have h0 := h x.1 x.2.1 hw hp  
  exact Eq.mpr (by kernel_rfl) h0
theorem cTouches1_ok : ConOK Go.Proofs.Try.prog 57 cTouches1 := by
  refine cTouches1_law ?_
  intro l m hw hp
  unfold cTouches1_0
  obtain ⟨p1, p2⟩ := hp
  refine ⟨trivial, ?_⟩
  unfold touchB
  cases hl : writes l
  · rw [if_pos (by rfl)]
    exact ⟨rfl, trivial⟩
  · rw [if_neg (by simp)]
    refine ⟨trivial, ?_⟩
    cases hm : writes m
    · rw [if_neg (by simp)]
      exact ⟨rfl, p2, trivial, trivial, by simp, trivial⟩
    · rw [if_pos rfl]
      refine ⟨trivial, ?_⟩
      by_cases e : m.2.1 = l.2.1
      · rw [if_pos (by simp [e])]
        exact ⟨rfl, by simp [e], trivial⟩
      · rw [if_neg (by simp [e])]
        exact ⟨p2, trivial, trivial, by simp [e], trivial⟩
abbrev cIndep : Con := { A := (.cons tL (.cons tL .nil)), R := (.cons .bool .nil), pre := fun x => validLine x.1 = true ∧ validLine x.2.1 = true, F := fun x => (indepB x.1 x.2.1, ()) }
def cIndep_0  (l : Lin) (m : Lin) (y0 : Bool) : Prop :=
  if (l.1 != (7 : Int)) = true then (True ∧ (if (bif true then (m.1 != (7 : Int)) else false) = true then ((validLine l = true ∧ validLine m = true) ∧ (True ∧ (if (bif true then (!(touchB l m)) else false) = true then ((validLine m = true ∧ validLine l = true) ∧ (True ∧ ((bif true then (!(touchB m l)) else false) = y0 ∧ True))) else (false = false ∧ (false = y0 ∧ True))))) else (false = false ∧ (false = false ∧ (false = y0 ∧ True))))) else (false = false ∧ (false = false ∧ (false = false ∧ (false = y0 ∧ True))))
theorem cIndep_law (h : ∀ (l : Lin) (m : Lin), cIndep.A.wf (l, m, ()) → (validLine l = true ∧ validLine m = true) → cIndep_0  l m (indepB l m)) : ConOK Go.Proofs.Try.prog 45 cIndep := by
  refine lawL (Γ := [(57, cTouches1)]) (Θ := Th) (n := 25) [] ⟨cTouches1_ok, trivial⟩ (by kernel_rfl) th_ok mix_ok Go.Proofs.Try.func45 (by kernel_rfl) ?_
  intro x hw hp Λ hC
  have h0 := h x.1 x.2.1 hw hp  
  exact Eq.mpr (by kernel_rfl) h0
theorem cIndep_ok : ConOK Go.Proofs.Try.prog 45 cIndep := by
  refine cIndep_law ?_
  intro l m hw hp
  unfold cIndep_0
  obtain ⟨p1, p2⟩ := hp
  unfold indepB
  by_cases hl : l.1 = 7
  · rw [if_neg (by simp [hl])]
    exact ⟨rfl, rfl, rfl, by simp [hl], trivial⟩
  · rw [if_pos (by simpa using hl)]
    refine ⟨trivial, ?_⟩
    by_cases hm : m.1 = 7
    · rw [if_neg (by simp [hm])]
      exact ⟨rfl, rfl, by simp [hm], trivial⟩
    · rw [if_pos (by simpa using hm)]
      refine ⟨⟨p1, p2⟩, trivial, ?_⟩
      cases ht : touchB l m
      · rw [if_pos (by rfl)]
        exact ⟨⟨p2, p1⟩, trivial, by simp [hl, hm], trivial⟩
      · rw [if_neg (by simp)]
        exact ⟨rfl, by simp, trivial⟩
abbrev cCanX : Con := { A := (.cons (.sl tL) (.cons .int .nil)), R := (.cons .bool (.cons .int .nil)), pre := fun x => True, F := fun x => (canX x.1 x.2.1, canEr x.1 x.2.1, ()) }
def cCanX_0 (Λ1 : Int → Prop) (p : (List Lin)) (at_ : Int) (y0 : Bool) (y1 : Int) : Prop :=
  True ∧ (if ((validP p) != (0 : Int)) = true then (false = y0 ∧ (validP p) = y1 ∧ True) else (inI ((List.length p : Int) - (2 : Int)) ∧ (True ∧ (if (!(within at_ (0 : Int) ((List.length p : Int) - (2 : Int)))) = true then (false = y0 ∧ (4 : Int) = y1 ∧ True) else ((0 ≤ (0 : Int) ∧ (0 : Int) ≤ at_ ∧ at_ ≤ (List.length p : Int) ∧ (List.length p : Int) ≤ (List.length p : Int)) ∧ Λ1 (0 : Int))))))
def cCanX_1 (Λ1 : Int → Prop) (p : (List Lin)) (at_ : Int) (y0 : Bool) (y1 : Int)  (t24_1 : Int) : Prop :=
  if (decide (t24_1 < (List.length (List.drop (Int.toNat (0 : Int)) (List.take (Int.toNat at_) p)) : Int))) = true then (idx t24_1 (List.length (List.drop (Int.toNat (0 : Int)) (List.take (Int.toNat at_) p)) : Int) ∧ (if ((List.getD (List.drop (Int.toNat (0 : Int)) (List.take (Int.toNat at_) p)) (Int.toNat t24_1) tL.dflt).1 == (7 : Int)) = true then (inI (t24_1 + (1 : Int)) ∧ (inI ((t24_1 + (1 : Int)) + (List.getD (List.drop (Int.toNat (0 : Int)) (List.take (Int.toNat at_) p)) (Int.toNat t24_1) tL.dflt).2.1) ∧ (inI (at_ + (1 : Int)) ∧ (True ∧ (if (bif true then (((t24_1 + (1 : Int)) + (List.getD (List.drop (Int.toNat (0 : Int)) (List.take (Int.toNat at_) p)) (Int.toNat t24_1) tL.dflt).2.1) == (at_ + (1 : Int))) else false) = true then (false = y0 ∧ (0 : Int) = y1 ∧ True) else (inI (t24_1 + (1 : Int)) ∧ Λ1 (t24_1 + (1 : Int)))))))) else (false = false ∧ (inI (t24_1 + (1 : Int)) ∧ Λ1 (t24_1 + (1 : Int)))))) else (idx at_ (List.length p : Int) ∧ (inI (at_ + (1 : Int)) ∧ (idx (at_ + (1 : Int)) (List.length p : Int) ∧ ((validLine (List.getD p (Int.toNat at_) tL.dflt) = true ∧ validLine (List.getD p (Int.toNat (at_ + (1 : Int))) tL.dflt) = true) ∧ ((indepB (List.getD p (Int.toNat at_) tL.dflt) (List.getD p (Int.toNat (at_ + (1 : Int))) tL.dflt)) = y0 ∧ (0 : Int) = y1 ∧ True)))))
theorem cCanX_law (h : ∀ (p : (List Lin)) (at_ : Int), cCanX.A.wf (p, at_, ()) → ∀ (Λ1 : Int → Prop), (∀ (t24_1 : Int), cCanX_1 Λ1 p at_ (canX p at_) (canEr p at_) t24_1 → Λ1 t24_1) → cCanX_0 Λ1 p at_ (canX p at_) (canEr p at_)) : ConOK Go.Proofs.Try.prog 35 cCanX := by
  refine lawL (Γ := [(45, cIndep), (33, cValP), (21, cWithin1)]) (Θ := Th) (n := 53) [([1, 1, 1, 0, 1, 0], ⟨[(0, false), (1, false), (22, false), (23, true), (24, true)], []⟩)] ⟨cIndep_ok, cValP_ok, cWithin1_ok, trivial⟩ (by kernel_rfl) th_ok mix_ok Go.Proofs.Try.func35 (by kernel_rfl) ?_
  intro x hw hp Λ hC
  have h0 := h x.1 x.2.1 hw (fun t24_1 => Λ [1, 1, 1, 0, 1, 0] ([(0, .d false (.sl tL) x.1), (1, .d false .int x.2.1), (22, .d false (.sl tL) (List.drop (Int.toNat (0 : Int)) (List.take (Int.toNat x.2.1) x.1))), (23, .d true .int (List.length (List.drop (Int.toNat (0 : Int)) (List.take (Int.toNat x.2.1) x.1)) : Int)), (24, .d true .int t24_1)], [])) (fun t24_1 hb => hC [1, 1, 1, 0, 1, 0] ([(0, .d false (.sl tL) x.1), (1, .d false .int x.2.1), (22, .d false (.sl tL) (List.drop (Int.toNat (0 : Int)) (List.take (Int.toNat x.2.1) x.1))), (23, .d true .int (List.length (List.drop (Int.toNat (0 : Int)) (List.take (Int.toNat x.2.1) x.1)) : Int)), (24, .d true .int t24_1)], []) (Eq.mpr (by kernel_rfl) hb))
  exact Eq.mpr (by kernel_rfl) h0
theorem cCanX_ok : ConOK Go.Proofs.Try.prog 35 cCanX := by
  refine cCanX_law ?_
  intro p at_ hw Λ1 h1
  unfold cCanX_0
  have hpl : p.length ≤ 140737488355328 := hw.1.1
  refine ⟨trivial, ?_⟩
  by_cases hv : validP p = 0
  · obtain ⟨h8, hall⟩ := validP_ok hv
    rw [if_neg (by simp [hv])]
    refine ⟨by unfold inI; omega, trivial, ?_⟩
    by_cases hwi : within at_ 0 ((p.length : Int) - 2) = true
    · have hr := within_iff.1 hwi
      have hE : canEr p at_ = 0 := by unfold canEr; rw [if_neg (by simp [hv]), if_pos hwi]
      rw [if_neg (by simp [hwi])]
      obtain ⟨a, rfl⟩ : ∃ a : Nat, at_ = a := ⟨at_.toNat, by omega⟩
      have hX : canX p a = (noLand p a a && indepB (p.getD a tL.dflt) (p.getD (a + 1) tL.dflt)) := by unfold canX; rw [hE, Int.toNat_natCast]; rfl
      have hT : List.drop (Int.toNat (0 : Int)) (List.take (Int.toNat (a : Int)) p) = p.take a := by rw [Int.toNat_natCast]; rfl
      have hTl : (p.take a).length = a := by rw [List.length_take]; omega
      have e1 : Int.toNat ((a : Int) + 1) = a + 1 := by omega
      refine ⟨⟨by omega, by omega, by omega, by omega⟩, ?_⟩
      refine upto (n := a) (Q := fun s => noLand p a s = true → Λ1 (s : Int)) ?_ ?_ 0 (Nat.zero_le _) rfl
      · intro hn
        apply h1; unfold cCanX_1
        rw [hT, hTl, if_neg (by simp), e1, Int.toNat_natCast, hX, hn, hE, Bool.true_and]
        exact ⟨⟨by omega, by omega⟩, by unfold inI; omega, ⟨by omega, by omega⟩, ⟨validLine_at hall (by omega), validLine_at hall (by omega)⟩, rfl, rfl, trivial⟩
      · intro s hs ih hn
        apply h1; unfold cCanX_1
        have hg : List.getD (p.take a) s tL.dflt = List.getD p s tL.dflt := by
          rw [List.getD_eq_getElem?_getD, List.getD_eq_getElem?_getD, List.getElem?_take, if_pos hs]
        rw [hT, hTl, if_pos (by simpa using hs), Int.toNat_natCast, hg]
        refine ⟨⟨by omega, by omega⟩, ?_⟩
        have hl := validLine_at hall (show s < p.length by omega)
        have hrr := line_regs hl
        have hsucc : noLand p a (s + 1) = !landsB a s (List.getD p s tL.dflt) := by
          unfold noLand at hn ⊢
          rw [List.range_succ, List.all_append, hn]
          simp
        generalize List.getD p s tL.dflt = l at *
        by_cases h7 : l.1 = 7
        · rw [if_pos (by simpa using h7)]
          have it := hrr.2.2.2.1 h7
          refine ⟨by unfold inI; omega, by unfold inI; omega, by unfold inI; omega, trivial, ?_⟩
          by_cases hx : (s : Int) + 1 + l.2.1 = (a : Int) + 1
          · rw [if_pos (by simpa using hx), hX, hE]
            have hb : landsB a s l = true := by unfold landsB; simp [h7, hx]
            have : noLand p a a = false := by
              obtain ⟨d, hd⟩ : ∃ d, a = s + 1 + d := ⟨a - (s + 1), by omega⟩
              have key : ∀ d, noLand p a (s + 1 + d) = false := by
                intro d
                induction d with
                | zero => rw [Nat.add_zero, hsucc, hb]; rfl
                | succ d ihd =>
                  have e : noLand p a (s + 1 + (d + 1)) = (noLand p a (s + 1 + d) && !landsB a (s + 1 + d) (p.getD (s + 1 + d) tL.dflt)) := by
                    unfold noLand
                    rw [show s + 1 + (d + 1) = (s + 1 + d) + 1 by omega, List.range_succ, List.all_append]
                    simp
                  rw [e, ihd]; rfl
              have := key d
              rwa [← hd] at this
            rw [this]
            exact ⟨rfl, rfl, trivial⟩
          · rw [if_neg (by simpa using hx)]
            refine ⟨by unfold inI; omega, ih ?_⟩
            rw [hsucc]
            unfold landsB
            simp [hx]
        · rw [if_neg (by simpa using h7)]
          refine ⟨rfl, by unfold inI; omega, ih ?_⟩
          rw [hsucc]
          unfold landsB
          simp [h7]
    · have hE : canEr p at_ = 4 := by unfold canEr; rw [if_neg (by simp [hv]), if_neg hwi]
      have hX : canX p at_ = false := by unfold canX; rw [hE]; rfl
      rw [if_pos (by simpa using hwi), hX, hE]
      exact ⟨rfl, rfl, trivial⟩
  · have hE : canEr p at_ = validP p := by unfold canEr; rw [if_pos hv]
    have hX : canX p at_ = false := by unfold canX; rw [hE]; simp [hv]
    rw [if_pos (by simpa using hv), hX, hE]
    exact ⟨rfl, rfl, trivial⟩
abbrev cExch : Con := { A := (.cons (.sl tL) (.cons .int .nil)), R := (.cons (.osl tL) (.cons .int .nil)), pre := fun x => True, F := fun x => ((if exE x.1 x.2.1 = 0 then exch x.1 (x.2.1).toNat else []), exE x.1 x.2.1, ()) }
def cExch_0  (p : (List Lin)) (at_ : Int) (y0 : (List Lin)) (y1 : Int) : Prop :=
  True ∧ (if ((canEr p at_) != (0 : Int)) = true then ((canEr p at_) = y1 ∧ ([] : List Lin) = y0) else (if (!(canX p at_)) = true then ((6 : Int) = y1 ∧ ([] : List Lin) = y0) else (p.length ≤ 1000000 ∧ (inI (at_ + (1 : Int)) ∧ (inI (at_ + (1 : Int)) ∧ (idx (at_ + (1 : Int)) (List.length p : Int) ∧ (idx at_ (List.length p : Int) ∧ (idx at_ (List.length p : Int) ∧ (idx (at_ + (1 : Int)) (List.length (List.set p (Int.toNat at_) (List.getD p (Int.toNat (at_ + (1 : Int))) tL.dflt)) : Int) ∧ ((0 : Int) = y1 ∧ (List.set (List.set p (Int.toNat at_) (List.getD p (Int.toNat (at_ + (1 : Int))) tL.dflt)) (Int.toNat (at_ + (1 : Int))) (List.getD p (Int.toNat at_) tL.dflt)) = y0))))))))))
theorem cExch_law (h : ∀ (p : (List Lin)) (at_ : Int), cExch.A.wf (p, at_, ()) → cExch_0  p at_ (if exE p at_ = 0 then exch p (at_).toNat else []) (exE p at_)) : ConOK Go.Proofs.Try.prog 13 cExch := by
  refine lawL (Γ := [(35, cCanX), (34, cCloneL)]) (Θ := Th) (n := 39) [] ⟨cCanX_ok, cCloneL_ok, trivial⟩ (by kernel_rfl) th_ok mix_ok Go.Proofs.Try.func13 (by kernel_rfl) ?_
  intro x hw hp Λ hC
  have h0 := h x.1 x.2.1 hw  
  exact Eq.mpr (by kernel_rfl) h0
theorem cExch_ok : ConOK Go.Proofs.Try.prog 13 cExch := by
  refine cExch_law ?_
  intro p at_ hw
  unfold cExch_0
  refine ⟨trivial, ?_⟩
  by_cases hE : canEr p at_ = 0
  · rw [if_neg (by simp [hE])]
    cases hX : canX p at_
    · have hx : exE p at_ = 6 := by unfold exE; rw [if_neg (by simp [hE]), if_neg (by rw [hX]; simp)]
      rw [if_pos (by rfl), hx]
      exact ⟨rfl, rfl⟩
    · have hx : exE p at_ = 0 := by unfold exE; rw [if_neg (by simp [hE]), if_pos hX]
      obtain ⟨q1, q2, q3, _⟩ := exE_ok hx
      have h8 := (validP_ok q1).1
      obtain ⟨a, rfl⟩ : ∃ a : Nat, at_ = a := ⟨at_.toNat, by omega⟩
      have e1 : Int.toNat ((a : Int) + 1) = a + 1 := by omega
      rw [if_neg (by simp), hx, if_pos rfl, e1, Int.toNat_natCast, List.length_set]
      have i1 : inI ((a : Int) + 1) := by unfold inI; omega
      have i2 : idx (a : Int) (p.length : Int) := ⟨by omega, by omega⟩
      have i3 : idx ((a : Int) + 1) (p.length : Int) := ⟨by omega, by omega⟩
      exact ⟨by omega, i1, i1, i3, i2, i2, i3, rfl, rfl⟩
  · have hx : exE p at_ = canEr p at_ := by unfold exE; rw [if_pos hE]
    rw [if_pos (by simpa using hE), hx, if_neg hE]
    exact ⟨rfl, rfl⟩
abbrev cIsOrd : Con := { A := (.cons (.sl .int) .nil), R := (.cons .bool .nil), pre := fun x => True, F := fun x => (isOrdB x.1, ()) }
def cIsOrd_0 (Λ1 : Int → Prop) (to_ : (List Int)) (y0 : Bool) : Prop :=
  if ((List.length to_ : Int) != (4 : Int)) = true then (false = y0 ∧ True) else Λ1 (0 : Int)
def cIsOrd_1 (Λ1 : Int → Prop) (to_ : (List Int)) (y0 : Bool)  (t7_1 : Int) : Prop :=
  if (decide (t7_1 < (4 : Int))) = true then (True ∧ (if (!(decide (t7_1 ∈ to_))) = true then (false = y0 ∧ True) else (inI (t7_1 + (1 : Int)) ∧ Λ1 (t7_1 + (1 : Int))))) else (true = y0 ∧ True)
theorem cIsOrd_law (h : ∀ (to_ : (List Int)), cIsOrd.A.wf (to_, ()) → ∀ (Λ1 : Int → Prop), (∀ (t7_1 : Int), cIsOrd_1 Λ1 to_ (isOrdB to_) t7_1 → Λ1 t7_1) → cIsOrd_0 Λ1 to_ (isOrdB to_)) : ConOK Go.Proofs.Try.prog 36 cIsOrd := by
  refine lawL (Γ := [(46, cContN)]) (Θ := Th) (n := 15) [([1, 1, 0, 1, 0], ⟨[(0, false), (7, true)], []⟩)] ⟨cContN_ok, trivial⟩ (by kernel_rfl) th_ok mix_ok Go.Proofs.Try.func36 (by kernel_rfl) ?_
  intro x hw hp Λ hC
  have h0 := h x.1 hw (fun t7_1 => Λ [1, 1, 0, 1, 0] ([(0, .d false (.sl .int) x.1), (7, .d true .int t7_1)], [])) (fun t7_1 hb => hC [1, 1, 0, 1, 0] ([(0, .d false (.sl .int) x.1), (7, .d true .int t7_1)], []) (Eq.mpr (by kernel_rfl) hb))
  exact Eq.mpr (by kernel_rfl) h0
theorem cIsOrd_ok : ConOK Go.Proofs.Try.prog 36 cIsOrd := by
  refine cIsOrd_law ?_
  intro to_ hw Λ1 h1
  unfold cIsOrd_0
  by_cases hl : to_.length = 4
  · rw [if_neg (by simp [hl])]
    refine upto (n := 4) (Q := fun i => (List.range i).all (fun r => decide ((r : Int) ∈ to_)) = true → Λ1 (i : Int)) ?_ ?_ 0 (Nat.zero_le _) rfl
    · intro ha
      apply h1; unfold cIsOrd_1; rw [if_neg (by decide)]
      exact ⟨by unfold isOrdB; rw [ha, hl]; rfl, trivial⟩
    · intro i hi ih ha
      apply h1; unfold cIsOrd_1; rw [if_pos (by simp; omega)]
      refine ⟨trivial, ?_⟩
      by_cases hm : (i : Int) ∈ to_
      · rw [if_neg (by simp [hm])]
        refine ⟨by unfold inI; omega, ih ?_⟩
        rw [List.range_succ, List.all_append, ha]
        simp [hm]
      · rw [if_pos (by simp [hm])]
        refine ⟨?_, trivial⟩
        unfold isOrdB
        have : (List.range 4).all (fun r => decide ((r : Int) ∈ to_)) = false := by
          rw [List.all_eq_false]
          exact ⟨i, List.mem_range.2 hi, by simp [hm]⟩
        rw [this, Bool.and_false]
  · rw [if_pos (by simp; omega)]
    exact ⟨by unfold isOrdB; simp [hl], trivial⟩
theorem getD_set_same {xs : List Lin} {i : Nat} {x d : Lin} (h : i < xs.length) : List.getD (List.set xs i x) i d = x := by
  simp [List.getD_eq_getElem?_getD, List.getElem?_set, h]
theorem set_getD {xs : List Lin} {i : Nat} {d : Lin} (h : i < xs.length) : List.set xs i (List.getD xs i d) = xs := by
  have e : List.getD xs i d = xs[i] := by simp [List.getD_eq_getElem?_getD, h]
  rw [e]; exact List.set_getElem_self h
def renK (to_ : List Int) (p : List Lin) (i : Nat) : List Lin := (p.take i).map (renL to_) ++ p.drop i
theorem renK_len (to_ : List Int) (p : List Lin) (i : Nat) : (renK to_ p i).length = p.length := by
  unfold renK
  simp only [List.length_append, List.length_map, List.length_take, List.length_drop]; omega
theorem renK_all (to_ : List Int) (p : List Lin) : renK to_ p p.length = renP to_ p := by
  unfold renK renP
  rw [List.take_length, List.drop_length, List.append_nil]
theorem renK_get (to_ : List Int) {p : List Lin} {i : Nat} (hi : i < p.length) : (renK to_ p i).getD i tL.dflt = p.getD i tL.dflt := by
  unfold renK
  have hl : ((p.take i).map (renL to_)).length = i := by rw [List.length_map, List.length_take]; omega
  rw [List.getD_eq_getElem?_getD, List.getD_eq_getElem?_getD, List.getElem?_append_right (by omega), hl, Nat.sub_self, List.getElem?_drop, Nat.add_zero]
theorem renK_set (to_ : List Int) {p : List Lin} {i : Nat} (hi : i < p.length) : (renK to_ p i).set i (renL to_ (p.getD i tL.dflt)) = renK to_ p (i + 1) := by
  unfold renK
  have hl : ((p.take i).map (renL to_)).length = i := by rw [List.length_map, List.length_take]; omega
  rw [List.set_append_right _ _ (by omega), hl, Nat.sub_self, List.drop_eq_getElem_cons hi, take_snoc tL.dflt hi, List.map_append, List.append_assoc]
  rfl
abbrev cRename : Con := { A := (.cons (.sl tL) (.cons (.sl .int) .nil)), R := (.cons (.osl tL) (.cons .int .nil)), pre := fun x => True, F := fun x => ((if renE x.1 x.2.1 = 0 then renP x.2.1 x.1 else []), renE x.1 x.2.1, ()) }
def cRename_0 (Λ1 : Int → (List Lin) → Prop) (p : (List Lin)) (to_ : (List Int)) (y0 : (List Lin)) (y1 : Int) : Prop :=
  True ∧ (if ((validP p) != (0 : Int)) = true then ((validP p) = y1 ∧ ([] : List Lin) = y0) else (True ∧ (if (!(isOrdB to_)) = true then ((1 : Int) = y1 ∧ ([] : List Lin) = y0) else (p.length ≤ 1000000 ∧ Λ1 (0 : Int) p))))
def cRename_1 (Λ1 : Int → (List Lin) → Prop) (p : (List Lin)) (to_ : (List Int)) (y0 : (List Lin)) (y1 : Int)  (t24_1 : Int) (out_1 : (List Lin)) : Prop :=
  if (decide (t24_1 < (List.length p : Int))) = true then (idx t24_1 (List.length out_1 : Int) ∧ (True ∧ (if (writes (List.getD out_1 (Int.toNat t24_1) tL.dflt)) = true then (idx ((List.getD out_1 (Int.toNat t24_1) tL.dflt).2.1) (List.length to_ : Int) ∧ (if ((List.getD (List.set out_1 (Int.toNat t24_1) ((List.getD out_1 (Int.toNat t24_1) tL.dflt).1, (List.getD to_ (Int.toNat ((List.getD out_1 (Int.toNat t24_1) tL.dflt).2.1)) 0), (List.getD out_1 (Int.toNat t24_1) tL.dflt).2.2.1, (List.getD out_1 (Int.toNat t24_1) tL.dflt).2.2.2.1, ())) (Int.toNat t24_1) tL.dflt).1 == (2 : Int)) = true then (idx ((List.getD (List.set out_1 (Int.toNat t24_1) ((List.getD out_1 (Int.toNat t24_1) tL.dflt).1, (List.getD to_ (Int.toNat ((List.getD out_1 (Int.toNat t24_1) tL.dflt).2.1)) 0), (List.getD out_1 (Int.toNat t24_1) tL.dflt).2.2.1, (List.getD out_1 (Int.toNat t24_1) tL.dflt).2.2.2.1, ())) (Int.toNat t24_1) tL.dflt).2.2.1) (List.length to_ : Int) ∧ (inI (t24_1 + (1 : Int)) ∧ Λ1 (t24_1 + (1 : Int)) (List.set (List.set out_1 (Int.toNat t24_1) ((List.getD out_1 (Int.toNat t24_1) tL.dflt).1, (List.getD to_ (Int.toNat ((List.getD out_1 (Int.toNat t24_1) tL.dflt).2.1)) 0), (List.getD out_1 (Int.toNat t24_1) tL.dflt).2.2.1, (List.getD out_1 (Int.toNat t24_1) tL.dflt).2.2.2.1, ())) (Int.toNat t24_1) ((List.getD (List.set out_1 (Int.toNat t24_1) ((List.getD out_1 (Int.toNat t24_1) tL.dflt).1, (List.getD to_ (Int.toNat ((List.getD out_1 (Int.toNat t24_1) tL.dflt).2.1)) 0), (List.getD out_1 (Int.toNat t24_1) tL.dflt).2.2.1, (List.getD out_1 (Int.toNat t24_1) tL.dflt).2.2.2.1, ())) (Int.toNat t24_1) tL.dflt).1, (List.getD (List.set out_1 (Int.toNat t24_1) ((List.getD out_1 (Int.toNat t24_1) tL.dflt).1, (List.getD to_ (Int.toNat ((List.getD out_1 (Int.toNat t24_1) tL.dflt).2.1)) 0), (List.getD out_1 (Int.toNat t24_1) tL.dflt).2.2.1, (List.getD out_1 (Int.toNat t24_1) tL.dflt).2.2.2.1, ())) (Int.toNat t24_1) tL.dflt).2.1, (List.getD to_ (Int.toNat ((List.getD (List.set out_1 (Int.toNat t24_1) ((List.getD out_1 (Int.toNat t24_1) tL.dflt).1, (List.getD to_ (Int.toNat ((List.getD out_1 (Int.toNat t24_1) tL.dflt).2.1)) 0), (List.getD out_1 (Int.toNat t24_1) tL.dflt).2.2.1, (List.getD out_1 (Int.toNat t24_1) tL.dflt).2.2.2.1, ())) (Int.toNat t24_1) tL.dflt).2.2.1)) 0), (List.getD (List.set out_1 (Int.toNat t24_1) ((List.getD out_1 (Int.toNat t24_1) tL.dflt).1, (List.getD to_ (Int.toNat ((List.getD out_1 (Int.toNat t24_1) tL.dflt).2.1)) 0), (List.getD out_1 (Int.toNat t24_1) tL.dflt).2.2.1, (List.getD out_1 (Int.toNat t24_1) tL.dflt).2.2.2.1, ())) (Int.toNat t24_1) tL.dflt).2.2.2.1, ())))) else (if ((List.getD (List.set out_1 (Int.toNat t24_1) ((List.getD out_1 (Int.toNat t24_1) tL.dflt).1, (List.getD to_ (Int.toNat ((List.getD out_1 (Int.toNat t24_1) tL.dflt).2.1)) 0), (List.getD out_1 (Int.toNat t24_1) tL.dflt).2.2.1, (List.getD out_1 (Int.toNat t24_1) tL.dflt).2.2.2.1, ())) (Int.toNat t24_1) tL.dflt).1 == (3 : Int)) = true then (if ((List.getD (List.set out_1 (Int.toNat t24_1) ((List.getD out_1 (Int.toNat t24_1) tL.dflt).1, (List.getD to_ (Int.toNat ((List.getD out_1 (Int.toNat t24_1) tL.dflt).2.1)) 0), (List.getD out_1 (Int.toNat t24_1) tL.dflt).2.2.1, (List.getD out_1 (Int.toNat t24_1) tL.dflt).2.2.2.1, ())) (Int.toNat t24_1) tL.dflt).1 == (3 : Int)) = true then (idx ((List.getD (List.set out_1 (Int.toNat t24_1) ((List.getD out_1 (Int.toNat t24_1) tL.dflt).1, (List.getD to_ (Int.toNat ((List.getD out_1 (Int.toNat t24_1) tL.dflt).2.1)) 0), (List.getD out_1 (Int.toNat t24_1) tL.dflt).2.2.1, (List.getD out_1 (Int.toNat t24_1) tL.dflt).2.2.2.1, ())) (Int.toNat t24_1) tL.dflt).2.2.1) (List.length to_ : Int) ∧ (idx ((List.getD (List.set out_1 (Int.toNat t24_1) ((List.getD out_1 (Int.toNat t24_1) tL.dflt).1, (List.getD to_ (Int.toNat ((List.getD out_1 (Int.toNat t24_1) tL.dflt).2.1)) 0), (List.getD out_1 (Int.toNat t24_1) tL.dflt).2.2.1, (List.getD out_1 (Int.toNat t24_1) tL.dflt).2.2.2.1, ())) (Int.toNat t24_1) tL.dflt).2.2.2.1) (List.length to_ : Int) ∧ (inI (t24_1 + (1 : Int)) ∧ Λ1 (t24_1 + (1 : Int)) (List.set (List.set (List.set out_1 (Int.toNat t24_1) ((List.getD out_1 (Int.toNat t24_1) tL.dflt).1, (List.getD to_ (Int.toNat ((List.getD out_1 (Int.toNat t24_1) tL.dflt).2.1)) 0), (List.getD out_1 (Int.toNat t24_1) tL.dflt).2.2.1, (List.getD out_1 (Int.toNat t24_1) tL.dflt).2.2.2.1, ())) (Int.toNat t24_1) ((List.getD (List.set out_1 (Int.toNat t24_1) ((List.getD out_1 (Int.toNat t24_1) tL.dflt).1, (List.getD to_ (Int.toNat ((List.getD out_1 (Int.toNat t24_1) tL.dflt).2.1)) 0), (List.getD out_1 (Int.toNat t24_1) tL.dflt).2.2.1, (List.getD out_1 (Int.toNat t24_1) tL.dflt).2.2.2.1, ())) (Int.toNat t24_1) tL.dflt).1, (List.getD (List.set out_1 (Int.toNat t24_1) ((List.getD out_1 (Int.toNat t24_1) tL.dflt).1, (List.getD to_ (Int.toNat ((List.getD out_1 (Int.toNat t24_1) tL.dflt).2.1)) 0), (List.getD out_1 (Int.toNat t24_1) tL.dflt).2.2.1, (List.getD out_1 (Int.toNat t24_1) tL.dflt).2.2.2.1, ())) (Int.toNat t24_1) tL.dflt).2.1, (List.getD to_ (Int.toNat ((List.getD (List.set out_1 (Int.toNat t24_1) ((List.getD out_1 (Int.toNat t24_1) tL.dflt).1, (List.getD to_ (Int.toNat ((List.getD out_1 (Int.toNat t24_1) tL.dflt).2.1)) 0), (List.getD out_1 (Int.toNat t24_1) tL.dflt).2.2.1, (List.getD out_1 (Int.toNat t24_1) tL.dflt).2.2.2.1, ())) (Int.toNat t24_1) tL.dflt).2.2.1)) 0), (List.getD (List.set out_1 (Int.toNat t24_1) ((List.getD out_1 (Int.toNat t24_1) tL.dflt).1, (List.getD to_ (Int.toNat ((List.getD out_1 (Int.toNat t24_1) tL.dflt).2.1)) 0), (List.getD out_1 (Int.toNat t24_1) tL.dflt).2.2.1, (List.getD out_1 (Int.toNat t24_1) tL.dflt).2.2.2.1, ())) (Int.toNat t24_1) tL.dflt).2.2.2.1, ())) (Int.toNat t24_1) ((List.getD (List.set (List.set out_1 (Int.toNat t24_1) ((List.getD out_1 (Int.toNat t24_1) tL.dflt).1, (List.getD to_ (Int.toNat ((List.getD out_1 (Int.toNat t24_1) tL.dflt).2.1)) 0), (List.getD out_1 (Int.toNat t24_1) tL.dflt).2.2.1, (List.getD out_1 (Int.toNat t24_1) tL.dflt).2.2.2.1, ())) (Int.toNat t24_1) ((List.getD (List.set out_1 (Int.toNat t24_1) ((List.getD out_1 (Int.toNat t24_1) tL.dflt).1, (List.getD to_ (Int.toNat ((List.getD out_1 (Int.toNat t24_1) tL.dflt).2.1)) 0), (List.getD out_1 (Int.toNat t24_1) tL.dflt).2.2.1, (List.getD out_1 (Int.toNat t24_1) tL.dflt).2.2.2.1, ())) (Int.toNat t24_1) tL.dflt).1, (List.getD (List.set out_1 (Int.toNat t24_1) ((List.getD out_1 (Int.toNat t24_1) tL.dflt).1, (List.getD to_ (Int.toNat ((List.getD out_1 (Int.toNat t24_1) tL.dflt).2.1)) 0), (List.getD out_1 (Int.toNat t24_1) tL.dflt).2.2.1, (List.getD out_1 (Int.toNat t24_1) tL.dflt).2.2.2.1, ())) (Int.toNat t24_1) tL.dflt).2.1, (List.getD to_ (Int.toNat ((List.getD (List.set out_1 (Int.toNat t24_1) ((List.getD out_1 (Int.toNat t24_1) tL.dflt).1, (List.getD to_ (Int.toNat ((List.getD out_1 (Int.toNat t24_1) tL.dflt).2.1)) 0), (List.getD out_1 (Int.toNat t24_1) tL.dflt).2.2.1, (List.getD out_1 (Int.toNat t24_1) tL.dflt).2.2.2.1, ())) (Int.toNat t24_1) tL.dflt).2.2.1)) 0), (List.getD (List.set out_1 (Int.toNat t24_1) ((List.getD out_1 (Int.toNat t24_1) tL.dflt).1, (List.getD to_ (Int.toNat ((List.getD out_1 (Int.toNat t24_1) tL.dflt).2.1)) 0), (List.getD out_1 (Int.toNat t24_1) tL.dflt).2.2.1, (List.getD out_1 (Int.toNat t24_1) tL.dflt).2.2.2.1, ())) (Int.toNat t24_1) tL.dflt).2.2.2.1, ())) (Int.toNat t24_1) tL.dflt).1, (List.getD (List.set (List.set out_1 (Int.toNat t24_1) ((List.getD out_1 (Int.toNat t24_1) tL.dflt).1, (List.getD to_ (Int.toNat ((List.getD out_1 (Int.toNat t24_1) tL.dflt).2.1)) 0), (List.getD out_1 (Int.toNat t24_1) tL.dflt).2.2.1, (List.getD out_1 (Int.toNat t24_1) tL.dflt).2.2.2.1, ())) (Int.toNat t24_1) ((List.getD (List.set out_1 (Int.toNat t24_1) ((List.getD out_1 (Int.toNat t24_1) tL.dflt).1, (List.getD to_ (Int.toNat ((List.getD out_1 (Int.toNat t24_1) tL.dflt).2.1)) 0), (List.getD out_1 (Int.toNat t24_1) tL.dflt).2.2.1, (List.getD out_1 (Int.toNat t24_1) tL.dflt).2.2.2.1, ())) (Int.toNat t24_1) tL.dflt).1, (List.getD (List.set out_1 (Int.toNat t24_1) ((List.getD out_1 (Int.toNat t24_1) tL.dflt).1, (List.getD to_ (Int.toNat ((List.getD out_1 (Int.toNat t24_1) tL.dflt).2.1)) 0), (List.getD out_1 (Int.toNat t24_1) tL.dflt).2.2.1, (List.getD out_1 (Int.toNat t24_1) tL.dflt).2.2.2.1, ())) (Int.toNat t24_1) tL.dflt).2.1, (List.getD to_ (Int.toNat ((List.getD (List.set out_1 (Int.toNat t24_1) ((List.getD out_1 (Int.toNat t24_1) tL.dflt).1, (List.getD to_ (Int.toNat ((List.getD out_1 (Int.toNat t24_1) tL.dflt).2.1)) 0), (List.getD out_1 (Int.toNat t24_1) tL.dflt).2.2.1, (List.getD out_1 (Int.toNat t24_1) tL.dflt).2.2.2.1, ())) (Int.toNat t24_1) tL.dflt).2.2.1)) 0), (List.getD (List.set out_1 (Int.toNat t24_1) ((List.getD out_1 (Int.toNat t24_1) tL.dflt).1, (List.getD to_ (Int.toNat ((List.getD out_1 (Int.toNat t24_1) tL.dflt).2.1)) 0), (List.getD out_1 (Int.toNat t24_1) tL.dflt).2.2.1, (List.getD out_1 (Int.toNat t24_1) tL.dflt).2.2.2.1, ())) (Int.toNat t24_1) tL.dflt).2.2.2.1, ())) (Int.toNat t24_1) tL.dflt).2.1, (List.getD (List.set (List.set out_1 (Int.toNat t24_1) ((List.getD out_1 (Int.toNat t24_1) tL.dflt).1, (List.getD to_ (Int.toNat ((List.getD out_1 (Int.toNat t24_1) tL.dflt).2.1)) 0), (List.getD out_1 (Int.toNat t24_1) tL.dflt).2.2.1, (List.getD out_1 (Int.toNat t24_1) tL.dflt).2.2.2.1, ())) (Int.toNat t24_1) ((List.getD (List.set out_1 (Int.toNat t24_1) ((List.getD out_1 (Int.toNat t24_1) tL.dflt).1, (List.getD to_ (Int.toNat ((List.getD out_1 (Int.toNat t24_1) tL.dflt).2.1)) 0), (List.getD out_1 (Int.toNat t24_1) tL.dflt).2.2.1, (List.getD out_1 (Int.toNat t24_1) tL.dflt).2.2.2.1, ())) (Int.toNat t24_1) tL.dflt).1, (List.getD (List.set out_1 (Int.toNat t24_1) ((List.getD out_1 (Int.toNat t24_1) tL.dflt).1, (List.getD to_ (Int.toNat ((List.getD out_1 (Int.toNat t24_1) tL.dflt).2.1)) 0), (List.getD out_1 (Int.toNat t24_1) tL.dflt).2.2.1, (List.getD out_1 (Int.toNat t24_1) tL.dflt).2.2.2.1, ())) (Int.toNat t24_1) tL.dflt).2.1, (List.getD to_ (Int.toNat ((List.getD (List.set out_1 (Int.toNat t24_1) ((List.getD out_1 (Int.toNat t24_1) tL.dflt).1, (List.getD to_ (Int.toNat ((List.getD out_1 (Int.toNat t24_1) tL.dflt).2.1)) 0), (List.getD out_1 (Int.toNat t24_1) tL.dflt).2.2.1, (List.getD out_1 (Int.toNat t24_1) tL.dflt).2.2.2.1, ())) (Int.toNat t24_1) tL.dflt).2.2.1)) 0), (List.getD (List.set out_1 (Int.toNat t24_1) ((List.getD out_1 (Int.toNat t24_1) tL.dflt).1, (List.getD to_ (Int.toNat ((List.getD out_1 (Int.toNat t24_1) tL.dflt).2.1)) 0), (List.getD out_1 (Int.toNat t24_1) tL.dflt).2.2.1, (List.getD out_1 (Int.toNat t24_1) tL.dflt).2.2.2.1, ())) (Int.toNat t24_1) tL.dflt).2.2.2.1, ())) (Int.toNat t24_1) tL.dflt).2.2.1, (List.getD to_ (Int.toNat ((List.getD (List.set out_1 (Int.toNat t24_1) ((List.getD out_1 (Int.toNat t24_1) tL.dflt).1, (List.getD to_ (Int.toNat ((List.getD out_1 (Int.toNat t24_1) tL.dflt).2.1)) 0), (List.getD out_1 (Int.toNat t24_1) tL.dflt).2.2.1, (List.getD out_1 (Int.toNat t24_1) tL.dflt).2.2.2.1, ())) (Int.toNat t24_1) tL.dflt).2.2.2.1)) 0), ()))))) else (inI (t24_1 + (1 : Int)) ∧ Λ1 (t24_1 + (1 : Int)) (List.set out_1 (Int.toNat t24_1) ((List.getD out_1 (Int.toNat t24_1) tL.dflt).1, (List.getD to_ (Int.toNat ((List.getD out_1 (Int.toNat t24_1) tL.dflt).2.1)) 0), (List.getD out_1 (Int.toNat t24_1) tL.dflt).2.2.1, (List.getD out_1 (Int.toNat t24_1) tL.dflt).2.2.2.1, ())))) else (if ((List.getD (List.set out_1 (Int.toNat t24_1) ((List.getD out_1 (Int.toNat t24_1) tL.dflt).1, (List.getD to_ (Int.toNat ((List.getD out_1 (Int.toNat t24_1) tL.dflt).2.1)) 0), (List.getD out_1 (Int.toNat t24_1) tL.dflt).2.2.1, (List.getD out_1 (Int.toNat t24_1) tL.dflt).2.2.2.1, ())) (Int.toNat t24_1) tL.dflt).1 == (4 : Int)) = true then (if ((List.getD (List.set out_1 (Int.toNat t24_1) ((List.getD out_1 (Int.toNat t24_1) tL.dflt).1, (List.getD to_ (Int.toNat ((List.getD out_1 (Int.toNat t24_1) tL.dflt).2.1)) 0), (List.getD out_1 (Int.toNat t24_1) tL.dflt).2.2.1, (List.getD out_1 (Int.toNat t24_1) tL.dflt).2.2.2.1, ())) (Int.toNat t24_1) tL.dflt).1 == (4 : Int)) = true then (idx ((List.getD (List.set out_1 (Int.toNat t24_1) ((List.getD out_1 (Int.toNat t24_1) tL.dflt).1, (List.getD to_ (Int.toNat ((List.getD out_1 (Int.toNat t24_1) tL.dflt).2.1)) 0), (List.getD out_1 (Int.toNat t24_1) tL.dflt).2.2.1, (List.getD out_1 (Int.toNat t24_1) tL.dflt).2.2.2.1, ())) (Int.toNat t24_1) tL.dflt).2.2.1) (List.length to_ : Int) ∧ (idx ((List.getD (List.set out_1 (Int.toNat t24_1) ((List.getD out_1 (Int.toNat t24_1) tL.dflt).1, (List.getD to_ (Int.toNat ((List.getD out_1 (Int.toNat t24_1) tL.dflt).2.1)) 0), (List.getD out_1 (Int.toNat t24_1) tL.dflt).2.2.1, (List.getD out_1 (Int.toNat t24_1) tL.dflt).2.2.2.1, ())) (Int.toNat t24_1) tL.dflt).2.2.2.1) (List.length to_ : Int) ∧ (inI (t24_1 + (1 : Int)) ∧ Λ1 (t24_1 + (1 : Int)) (List.set (List.set (List.set out_1 (Int.toNat t24_1) ((List.getD out_1 (Int.toNat t24_1) tL.dflt).1, (List.getD to_ (Int.toNat ((List.getD out_1 (Int.toNat t24_1) tL.dflt).2.1)) 0), (List.getD out_1 (Int.toNat t24_1) tL.dflt).2.2.1, (List.getD out_1 (Int.toNat t24_1) tL.dflt).2.2.2.1, ())) (Int.toNat t24_1) ((List.getD (List.set out_1 (Int.toNat t24_1) ((List.getD out_1 (Int.toNat t24_1) tL.dflt).1, (List.getD to_ (Int.toNat ((List.getD out_1 (Int.toNat t24_1) tL.dflt).2.1)) 0), (List.getD out_1 (Int.toNat t24_1) tL.dflt).2.2.1, (List.getD out_1 (Int.toNat t24_1) tL.dflt).2.2.2.1, ())) (Int.toNat t24_1) tL.dflt).1, (List.getD (List.set out_1 (Int.toNat t24_1) ((List.getD out_1 (Int.toNat t24_1) tL.dflt).1, (List.getD to_ (Int.toNat ((List.getD out_1 (Int.toNat t24_1) tL.dflt).2.1)) 0), (List.getD out_1 (Int.toNat t24_1) tL.dflt).2.2.1, (List.getD out_1 (Int.toNat t24_1) tL.dflt).2.2.2.1, ())) (Int.toNat t24_1) tL.dflt).2.1, (List.getD to_ (Int.toNat ((List.getD (List.set out_1 (Int.toNat t24_1) ((List.getD out_1 (Int.toNat t24_1) tL.dflt).1, (List.getD to_ (Int.toNat ((List.getD out_1 (Int.toNat t24_1) tL.dflt).2.1)) 0), (List.getD out_1 (Int.toNat t24_1) tL.dflt).2.2.1, (List.getD out_1 (Int.toNat t24_1) tL.dflt).2.2.2.1, ())) (Int.toNat t24_1) tL.dflt).2.2.1)) 0), (List.getD (List.set out_1 (Int.toNat t24_1) ((List.getD out_1 (Int.toNat t24_1) tL.dflt).1, (List.getD to_ (Int.toNat ((List.getD out_1 (Int.toNat t24_1) tL.dflt).2.1)) 0), (List.getD out_1 (Int.toNat t24_1) tL.dflt).2.2.1, (List.getD out_1 (Int.toNat t24_1) tL.dflt).2.2.2.1, ())) (Int.toNat t24_1) tL.dflt).2.2.2.1, ())) (Int.toNat t24_1) ((List.getD (List.set (List.set out_1 (Int.toNat t24_1) ((List.getD out_1 (Int.toNat t24_1) tL.dflt).1, (List.getD to_ (Int.toNat ((List.getD out_1 (Int.toNat t24_1) tL.dflt).2.1)) 0), (List.getD out_1 (Int.toNat t24_1) tL.dflt).2.2.1, (List.getD out_1 (Int.toNat t24_1) tL.dflt).2.2.2.1, ())) (Int.toNat t24_1) ((List.getD (List.set out_1 (Int.toNat t24_1) ((List.getD out_1 (Int.toNat t24_1) tL.dflt).1, (List.getD to_ (Int.toNat ((List.getD out_1 (Int.toNat t24_1) tL.dflt).2.1)) 0), (List.getD out_1 (Int.toNat t24_1) tL.dflt).2.2.1, (List.getD out_1 (Int.toNat t24_1) tL.dflt).2.2.2.1, ())) (Int.toNat t24_1) tL.dflt).1, (List.getD (List.set out_1 (Int.toNat t24_1) ((List.getD out_1 (Int.toNat t24_1) tL.dflt).1, (List.getD to_ (Int.toNat ((List.getD out_1 (Int.toNat t24_1) tL.dflt).2.1)) 0), (List.getD out_1 (Int.toNat t24_1) tL.dflt).2.2.1, (List.getD out_1 (Int.toNat t24_1) tL.dflt).2.2.2.1, ())) (Int.toNat t24_1) tL.dflt).2.1, (List.getD to_ (Int.toNat ((List.getD (List.set out_1 (Int.toNat t24_1) ((List.getD out_1 (Int.toNat t24_1) tL.dflt).1, (List.getD to_ (Int.toNat ((List.getD out_1 (Int.toNat t24_1) tL.dflt).2.1)) 0), (List.getD out_1 (Int.toNat t24_1) tL.dflt).2.2.1, (List.getD out_1 (Int.toNat t24_1) tL.dflt).2.2.2.1, ())) (Int.toNat t24_1) tL.dflt).2.2.1)) 0), (List.getD (List.set out_1 (Int.toNat t24_1) ((List.getD out_1 (Int.toNat t24_1) tL.dflt).1, (List.getD to_ (Int.toNat ((List.getD out_1 (Int.toNat t24_1) tL.dflt).2.1)) 0), (List.getD out_1 (Int.toNat t24_1) tL.dflt).2.2.1, (List.getD out_1 (Int.toNat t24_1) tL.dflt).2.2.2.1, ())) (Int.toNat t24_1) tL.dflt).2.2.2.1, ())) (Int.toNat t24_1) tL.dflt).1, (List.getD (List.set (List.set out_1 (Int.toNat t24_1) ((List.getD out_1 (Int.toNat t24_1) tL.dflt).1, (List.getD to_ (Int.toNat ((List.getD out_1 (Int.toNat t24_1) tL.dflt).2.1)) 0), (List.getD out_1 (Int.toNat t24_1) tL.dflt).2.2.1, (List.getD out_1 (Int.toNat t24_1) tL.dflt).2.2.2.1, ())) (Int.toNat t24_1) ((List.getD (List.set out_1 (Int.toNat t24_1) ((List.getD out_1 (Int.toNat t24_1) tL.dflt).1, (List.getD to_ (Int.toNat ((List.getD out_1 (Int.toNat t24_1) tL.dflt).2.1)) 0), (List.getD out_1 (Int.toNat t24_1) tL.dflt).2.2.1, (List.getD out_1 (Int.toNat t24_1) tL.dflt).2.2.2.1, ())) (Int.toNat t24_1) tL.dflt).1, (List.getD (List.set out_1 (Int.toNat t24_1) ((List.getD out_1 (Int.toNat t24_1) tL.dflt).1, (List.getD to_ (Int.toNat ((List.getD out_1 (Int.toNat t24_1) tL.dflt).2.1)) 0), (List.getD out_1 (Int.toNat t24_1) tL.dflt).2.2.1, (List.getD out_1 (Int.toNat t24_1) tL.dflt).2.2.2.1, ())) (Int.toNat t24_1) tL.dflt).2.1, (List.getD to_ (Int.toNat ((List.getD (List.set out_1 (Int.toNat t24_1) ((List.getD out_1 (Int.toNat t24_1) tL.dflt).1, (List.getD to_ (Int.toNat ((List.getD out_1 (Int.toNat t24_1) tL.dflt).2.1)) 0), (List.getD out_1 (Int.toNat t24_1) tL.dflt).2.2.1, (List.getD out_1 (Int.toNat t24_1) tL.dflt).2.2.2.1, ())) (Int.toNat t24_1) tL.dflt).2.2.1)) 0), (List.getD (List.set out_1 (Int.toNat t24_1) ((List.getD out_1 (Int.toNat t24_1) tL.dflt).1, (List.getD to_ (Int.toNat ((List.getD out_1 (Int.toNat t24_1) tL.dflt).2.1)) 0), (List.getD out_1 (Int.toNat t24_1) tL.dflt).2.2.1, (List.getD out_1 (Int.toNat t24_1) tL.dflt).2.2.2.1, ())) (Int.toNat t24_1) tL.dflt).2.2.2.1, ())) (Int.toNat t24_1) tL.dflt).2.1, (List.getD (List.set (List.set out_1 (Int.toNat t24_1) ((List.getD out_1 (Int.toNat t24_1) tL.dflt).1, (List.getD to_ (Int.toNat ((List.getD out_1 (Int.toNat t24_1) tL.dflt).2.1)) 0), (List.getD out_1 (Int.toNat t24_1) tL.dflt).2.2.1, (List.getD out_1 (Int.toNat t24_1) tL.dflt).2.2.2.1, ())) (Int.toNat t24_1) ((List.getD (List.set out_1 (Int.toNat t24_1) ((List.getD out_1 (Int.toNat t24_1) tL.dflt).1, (List.getD to_ (Int.toNat ((List.getD out_1 (Int.toNat t24_1) tL.dflt).2.1)) 0), (List.getD out_1 (Int.toNat t24_1) tL.dflt).2.2.1, (List.getD out_1 (Int.toNat t24_1) tL.dflt).2.2.2.1, ())) (Int.toNat t24_1) tL.dflt).1, (List.getD (List.set out_1 (Int.toNat t24_1) ((List.getD out_1 (Int.toNat t24_1) tL.dflt).1, (List.getD to_ (Int.toNat ((List.getD out_1 (Int.toNat t24_1) tL.dflt).2.1)) 0), (List.getD out_1 (Int.toNat t24_1) tL.dflt).2.2.1, (List.getD out_1 (Int.toNat t24_1) tL.dflt).2.2.2.1, ())) (Int.toNat t24_1) tL.dflt).2.1, (List.getD to_ (Int.toNat ((List.getD (List.set out_1 (Int.toNat t24_1) ((List.getD out_1 (Int.toNat t24_1) tL.dflt).1, (List.getD to_ (Int.toNat ((List.getD out_1 (Int.toNat t24_1) tL.dflt).2.1)) 0), (List.getD out_1 (Int.toNat t24_1) tL.dflt).2.2.1, (List.getD out_1 (Int.toNat t24_1) tL.dflt).2.2.2.1, ())) (Int.toNat t24_1) tL.dflt).2.2.1)) 0), (List.getD (List.set out_1 (Int.toNat t24_1) ((List.getD out_1 (Int.toNat t24_1) tL.dflt).1, (List.getD to_ (Int.toNat ((List.getD out_1 (Int.toNat t24_1) tL.dflt).2.1)) 0), (List.getD out_1 (Int.toNat t24_1) tL.dflt).2.2.1, (List.getD out_1 (Int.toNat t24_1) tL.dflt).2.2.2.1, ())) (Int.toNat t24_1) tL.dflt).2.2.2.1, ())) (Int.toNat t24_1) tL.dflt).2.2.1, (List.getD to_ (Int.toNat ((List.getD (List.set out_1 (Int.toNat t24_1) ((List.getD out_1 (Int.toNat t24_1) tL.dflt).1, (List.getD to_ (Int.toNat ((List.getD out_1 (Int.toNat t24_1) tL.dflt).2.1)) 0), (List.getD out_1 (Int.toNat t24_1) tL.dflt).2.2.1, (List.getD out_1 (Int.toNat t24_1) tL.dflt).2.2.2.1, ())) (Int.toNat t24_1) tL.dflt).2.2.2.1)) 0), ()))))) else (inI (t24_1 + (1 : Int)) ∧ Λ1 (t24_1 + (1 : Int)) (List.set out_1 (Int.toNat t24_1) ((List.getD out_1 (Int.toNat t24_1) tL.dflt).1, (List.getD to_ (Int.toNat ((List.getD out_1 (Int.toNat t24_1) tL.dflt).2.1)) 0), (List.getD out_1 (Int.toNat t24_1) tL.dflt).2.2.1, (List.getD out_1 (Int.toNat t24_1) tL.dflt).2.2.2.1, ())))) else (if ((List.getD (List.set out_1 (Int.toNat t24_1) ((List.getD out_1 (Int.toNat t24_1) tL.dflt).1, (List.getD to_ (Int.toNat ((List.getD out_1 (Int.toNat t24_1) tL.dflt).2.1)) 0), (List.getD out_1 (Int.toNat t24_1) tL.dflt).2.2.1, (List.getD out_1 (Int.toNat t24_1) tL.dflt).2.2.2.1, ())) (Int.toNat t24_1) tL.dflt).1 == (5 : Int)) = true then (if ((List.getD (List.set out_1 (Int.toNat t24_1) ((List.getD out_1 (Int.toNat t24_1) tL.dflt).1, (List.getD to_ (Int.toNat ((List.getD out_1 (Int.toNat t24_1) tL.dflt).2.1)) 0), (List.getD out_1 (Int.toNat t24_1) tL.dflt).2.2.1, (List.getD out_1 (Int.toNat t24_1) tL.dflt).2.2.2.1, ())) (Int.toNat t24_1) tL.dflt).1 == (5 : Int)) = true then (idx ((List.getD (List.set out_1 (Int.toNat t24_1) ((List.getD out_1 (Int.toNat t24_1) tL.dflt).1, (List.getD to_ (Int.toNat ((List.getD out_1 (Int.toNat t24_1) tL.dflt).2.1)) 0), (List.getD out_1 (Int.toNat t24_1) tL.dflt).2.2.1, (List.getD out_1 (Int.toNat t24_1) tL.dflt).2.2.2.1, ())) (Int.toNat t24_1) tL.dflt).2.2.1) (List.length to_ : Int) ∧ (idx ((List.getD (List.set out_1 (Int.toNat t24_1) ((List.getD out_1 (Int.toNat t24_1) tL.dflt).1, (List.getD to_ (Int.toNat ((List.getD out_1 (Int.toNat t24_1) tL.dflt).2.1)) 0), (List.getD out_1 (Int.toNat t24_1) tL.dflt).2.2.1, (List.getD out_1 (Int.toNat t24_1) tL.dflt).2.2.2.1, ())) (Int.toNat t24_1) tL.dflt).2.2.2.1) (List.length to_ : Int) ∧ (inI (t24_1 + (1 : Int)) ∧ Λ1 (t24_1 + (1 : Int)) (List.set (List.set (List.set out_1 (Int.toNat t24_1) ((List.getD out_1 (Int.toNat t24_1) tL.dflt).1, (List.getD to_ (Int.toNat ((List.getD out_1 (Int.toNat t24_1) tL.dflt).2.1)) 0), (List.getD out_1 (Int.toNat t24_1) tL.dflt).2.2.1, (List.getD out_1 (Int.toNat t24_1) tL.dflt).2.2.2.1, ())) (Int.toNat t24_1) ((List.getD (List.set out_1 (Int.toNat t24_1) ((List.getD out_1 (Int.toNat t24_1) tL.dflt).1, (List.getD to_ (Int.toNat ((List.getD out_1 (Int.toNat t24_1) tL.dflt).2.1)) 0), (List.getD out_1 (Int.toNat t24_1) tL.dflt).2.2.1, (List.getD out_1 (Int.toNat t24_1) tL.dflt).2.2.2.1, ())) (Int.toNat t24_1) tL.dflt).1, (List.getD (List.set out_1 (Int.toNat t24_1) ((List.getD out_1 (Int.toNat t24_1) tL.dflt).1, (List.getD to_ (Int.toNat ((List.getD out_1 (Int.toNat t24_1) tL.dflt).2.1)) 0), (List.getD out_1 (Int.toNat t24_1) tL.dflt).2.2.1, (List.getD out_1 (Int.toNat t24_1) tL.dflt).2.2.2.1, ())) (Int.toNat t24_1) tL.dflt).2.1, (List.getD to_ (Int.toNat ((List.getD (List.set out_1 (Int.toNat t24_1) ((List.getD out_1 (Int.toNat t24_1) tL.dflt).1, (List.getD to_ (Int.toNat ((List.getD out_1 (Int.toNat t24_1) tL.dflt).2.1)) 0), (List.getD out_1 (Int.toNat t24_1) tL.dflt).2.2.1, (List.getD out_1 (Int.toNat t24_1) tL.dflt).2.2.2.1, ())) (Int.toNat t24_1) tL.dflt).2.2.1)) 0), (List.getD (List.set out_1 (Int.toNat t24_1) ((List.getD out_1 (Int.toNat t24_1) tL.dflt).1, (List.getD to_ (Int.toNat ((List.getD out_1 (Int.toNat t24_1) tL.dflt).2.1)) 0), (List.getD out_1 (Int.toNat t24_1) tL.dflt).2.2.1, (List.getD out_1 (Int.toNat t24_1) tL.dflt).2.2.2.1, ())) (Int.toNat t24_1) tL.dflt).2.2.2.1, ())) (Int.toNat t24_1) ((List.getD (List.set (List.set out_1 (Int.toNat t24_1) ((List.getD out_1 (Int.toNat t24_1) tL.dflt).1, (List.getD to_ (Int.toNat ((List.getD out_1 (Int.toNat t24_1) tL.dflt).2.1)) 0), (List.getD out_1 (Int.toNat t24_1) tL.dflt).2.2.1, (List.getD out_1 (Int.toNat t24_1) tL.dflt).2.2.2.1, ())) (Int.toNat t24_1) ((List.getD (List.set out_1 (Int.toNat t24_1) ((List.getD out_1 (Int.toNat t24_1) tL.dflt).1, (List.getD to_ (Int.toNat ((List.getD out_1 (Int.toNat t24_1) tL.dflt).2.1)) 0), (List.getD out_1 (Int.toNat t24_1) tL.dflt).2.2.1, (List.getD out_1 (Int.toNat t24_1) tL.dflt).2.2.2.1, ())) (Int.toNat t24_1) tL.dflt).1, (List.getD (List.set out_1 (Int.toNat t24_1) ((List.getD out_1 (Int.toNat t24_1) tL.dflt).1, (List.getD to_ (Int.toNat ((List.getD out_1 (Int.toNat t24_1) tL.dflt).2.1)) 0), (List.getD out_1 (Int.toNat t24_1) tL.dflt).2.2.1, (List.getD out_1 (Int.toNat t24_1) tL.dflt).2.2.2.1, ())) (Int.toNat t24_1) tL.dflt).2.1, (List.getD to_ (Int.toNat ((List.getD (List.set out_1 (Int.toNat t24_1) ((List.getD out_1 (Int.toNat t24_1) tL.dflt).1, (List.getD to_ (Int.toNat ((List.getD out_1 (Int.toNat t24_1) tL.dflt).2.1)) 0), (List.getD out_1 (Int.toNat t24_1) tL.dflt).2.2.1, (List.getD out_1 (Int.toNat t24_1) tL.dflt).2.2.2.1, ())) (Int.toNat t24_1) tL.dflt).2.2.1)) 0), (List.getD (List.set out_1 (Int.toNat t24_1) ((List.getD out_1 (Int.toNat t24_1) tL.dflt).1, (List.getD to_ (Int.toNat ((List.getD out_1 (Int.toNat t24_1) tL.dflt).2.1)) 0), (List.getD out_1 (Int.toNat t24_1) tL.dflt).2.2.1, (List.getD out_1 (Int.toNat t24_1) tL.dflt).2.2.2.1, ())) (Int.toNat t24_1) tL.dflt).2.2.2.1, ())) (Int.toNat t24_1) tL.dflt).1, (List.getD (List.set (List.set out_1 (Int.toNat t24_1) ((List.getD out_1 (Int.toNat t24_1) tL.dflt).1, (List.getD to_ (Int.toNat ((List.getD out_1 (Int.toNat t24_1) tL.dflt).2.1)) 0), (List.getD out_1 (Int.toNat t24_1) tL.dflt).2.2.1, (List.getD out_1 (Int.toNat t24_1) tL.dflt).2.2.2.1, ())) (Int.toNat t24_1) ((List.getD (List.set out_1 (Int.toNat t24_1) ((List.getD out_1 (Int.toNat t24_1) tL.dflt).1, (List.getD to_ (Int.toNat ((List.getD out_1 (Int.toNat t24_1) tL.dflt).2.1)) 0), (List.getD out_1 (Int.toNat t24_1) tL.dflt).2.2.1, (List.getD out_1 (Int.toNat t24_1) tL.dflt).2.2.2.1, ())) (Int.toNat t24_1) tL.dflt).1, (List.getD (List.set out_1 (Int.toNat t24_1) ((List.getD out_1 (Int.toNat t24_1) tL.dflt).1, (List.getD to_ (Int.toNat ((List.getD out_1 (Int.toNat t24_1) tL.dflt).2.1)) 0), (List.getD out_1 (Int.toNat t24_1) tL.dflt).2.2.1, (List.getD out_1 (Int.toNat t24_1) tL.dflt).2.2.2.1, ())) (Int.toNat t24_1) tL.dflt).2.1, (List.getD to_ (Int.toNat ((List.getD (List.set out_1 (Int.toNat t24_1) ((List.getD out_1 (Int.toNat t24_1) tL.dflt).1, (List.getD to_ (Int.toNat ((List.getD out_1 (Int.toNat t24_1) tL.dflt).2.1)) 0), (List.getD out_1 (Int.toNat t24_1) tL.dflt).2.2.1, (List.getD out_1 (Int.toNat t24_1) tL.dflt).2.2.2.1, ())) (Int.toNat t24_1) tL.dflt).2.2.1)) 0), (List.getD (List.set out_1 (Int.toNat t24_1) ((List.getD out_1 (Int.toNat t24_1) tL.dflt).1, (List.getD to_ (Int.toNat ((List.getD out_1 (Int.toNat t24_1) tL.dflt).2.1)) 0), (List.getD out_1 (Int.toNat t24_1) tL.dflt).2.2.1, (List.getD out_1 (Int.toNat t24_1) tL.dflt).2.2.2.1, ())) (Int.toNat t24_1) tL.dflt).2.2.2.1, ())) (Int.toNat t24_1) tL.dflt).2.1, (List.getD (List.set (List.set out_1 (Int.toNat t24_1) ((List.getD out_1 (Int.toNat t24_1) tL.dflt).1, (List.getD to_ (Int.toNat ((List.getD out_1 (Int.toNat t24_1) tL.dflt).2.1)) 0), (List.getD out_1 (Int.toNat t24_1) tL.dflt).2.2.1, (List.getD out_1 (Int.toNat t24_1) tL.dflt).2.2.2.1, ())) (Int.toNat t24_1) ((List.getD (List.set out_1 (Int.toNat t24_1) ((List.getD out_1 (Int.toNat t24_1) tL.dflt).1, (List.getD to_ (Int.toNat ((List.getD out_1 (Int.toNat t24_1) tL.dflt).2.1)) 0), (List.getD out_1 (Int.toNat t24_1) tL.dflt).2.2.1, (List.getD out_1 (Int.toNat t24_1) tL.dflt).2.2.2.1, ())) (Int.toNat t24_1) tL.dflt).1, (List.getD (List.set out_1 (Int.toNat t24_1) ((List.getD out_1 (Int.toNat t24_1) tL.dflt).1, (List.getD to_ (Int.toNat ((List.getD out_1 (Int.toNat t24_1) tL.dflt).2.1)) 0), (List.getD out_1 (Int.toNat t24_1) tL.dflt).2.2.1, (List.getD out_1 (Int.toNat t24_1) tL.dflt).2.2.2.1, ())) (Int.toNat t24_1) tL.dflt).2.1, (List.getD to_ (Int.toNat ((List.getD (List.set out_1 (Int.toNat t24_1) ((List.getD out_1 (Int.toNat t24_1) tL.dflt).1, (List.getD to_ (Int.toNat ((List.getD out_1 (Int.toNat t24_1) tL.dflt).2.1)) 0), (List.getD out_1 (Int.toNat t24_1) tL.dflt).2.2.1, (List.getD out_1 (Int.toNat t24_1) tL.dflt).2.2.2.1, ())) (Int.toNat t24_1) tL.dflt).2.2.1)) 0), (List.getD (List.set out_1 (Int.toNat t24_1) ((List.getD out_1 (Int.toNat t24_1) tL.dflt).1, (List.getD to_ (Int.toNat ((List.getD out_1 (Int.toNat t24_1) tL.dflt).2.1)) 0), (List.getD out_1 (Int.toNat t24_1) tL.dflt).2.2.1, (List.getD out_1 (Int.toNat t24_1) tL.dflt).2.2.2.1, ())) (Int.toNat t24_1) tL.dflt).2.2.2.1, ())) (Int.toNat t24_1) tL.dflt).2.2.1, (List.getD to_ (Int.toNat ((List.getD (List.set out_1 (Int.toNat t24_1) ((List.getD out_1 (Int.toNat t24_1) tL.dflt).1, (List.getD to_ (Int.toNat ((List.getD out_1 (Int.toNat t24_1) tL.dflt).2.1)) 0), (List.getD out_1 (Int.toNat t24_1) tL.dflt).2.2.1, (List.getD out_1 (Int.toNat t24_1) tL.dflt).2.2.2.1, ())) (Int.toNat t24_1) tL.dflt).2.2.2.1)) 0), ()))))) else (inI (t24_1 + (1 : Int)) ∧ Λ1 (t24_1 + (1 : Int)) (List.set out_1 (Int.toNat t24_1) ((List.getD out_1 (Int.toNat t24_1) tL.dflt).1, (List.getD to_ (Int.toNat ((List.getD out_1 (Int.toNat t24_1) tL.dflt).2.1)) 0), (List.getD out_1 (Int.toNat t24_1) tL.dflt).2.2.1, (List.getD out_1 (Int.toNat t24_1) tL.dflt).2.2.2.1, ())))) else (if ((List.getD (List.set out_1 (Int.toNat t24_1) ((List.getD out_1 (Int.toNat t24_1) tL.dflt).1, (List.getD to_ (Int.toNat ((List.getD out_1 (Int.toNat t24_1) tL.dflt).2.1)) 0), (List.getD out_1 (Int.toNat t24_1) tL.dflt).2.2.1, (List.getD out_1 (Int.toNat t24_1) tL.dflt).2.2.2.1, ())) (Int.toNat t24_1) tL.dflt).1 == (6 : Int)) = true then (if ((List.getD (List.set out_1 (Int.toNat t24_1) ((List.getD out_1 (Int.toNat t24_1) tL.dflt).1, (List.getD to_ (Int.toNat ((List.getD out_1 (Int.toNat t24_1) tL.dflt).2.1)) 0), (List.getD out_1 (Int.toNat t24_1) tL.dflt).2.2.1, (List.getD out_1 (Int.toNat t24_1) tL.dflt).2.2.2.1, ())) (Int.toNat t24_1) tL.dflt).1 == (6 : Int)) = true then (idx ((List.getD (List.set out_1 (Int.toNat t24_1) ((List.getD out_1 (Int.toNat t24_1) tL.dflt).1, (List.getD to_ (Int.toNat ((List.getD out_1 (Int.toNat t24_1) tL.dflt).2.1)) 0), (List.getD out_1 (Int.toNat t24_1) tL.dflt).2.2.1, (List.getD out_1 (Int.toNat t24_1) tL.dflt).2.2.2.1, ())) (Int.toNat t24_1) tL.dflt).2.2.1) (List.length to_ : Int) ∧ (idx ((List.getD (List.set out_1 (Int.toNat t24_1) ((List.getD out_1 (Int.toNat t24_1) tL.dflt).1, (List.getD to_ (Int.toNat ((List.getD out_1 (Int.toNat t24_1) tL.dflt).2.1)) 0), (List.getD out_1 (Int.toNat t24_1) tL.dflt).2.2.1, (List.getD out_1 (Int.toNat t24_1) tL.dflt).2.2.2.1, ())) (Int.toNat t24_1) tL.dflt).2.2.2.1) (List.length to_ : Int) ∧ (inI (t24_1 + (1 : Int)) ∧ Λ1 (t24_1 + (1 : Int)) (List.set (List.set (List.set out_1 (Int.toNat t24_1) ((List.getD out_1 (Int.toNat t24_1) tL.dflt).1, (List.getD to_ (Int.toNat ((List.getD out_1 (Int.toNat t24_1) tL.dflt).2.1)) 0), (List.getD out_1 (Int.toNat t24_1) tL.dflt).2.2.1, (List.getD out_1 (Int.toNat t24_1) tL.dflt).2.2.2.1, ())) (Int.toNat t24_1) ((List.getD (List.set out_1 (Int.toNat t24_1) ((List.getD out_1 (Int.toNat t24_1) tL.dflt).1, (List.getD to_ (Int.toNat ((List.getD out_1 (Int.toNat t24_1) tL.dflt).2.1)) 0), (List.getD out_1 (Int.toNat t24_1) tL.dflt).2.2.1, (List.getD out_1 (Int.toNat t24_1) tL.dflt).2.2.2.1, ())) (Int.toNat t24_1) tL.dflt).1, (List.getD (List.set out_1 (Int.toNat t24_1) ((List.getD out_1 (Int.toNat t24_1) tL.dflt).1, (List.getD to_ (Int.toNat ((List.getD out_1 (Int.toNat t24_1) tL.dflt).2.1)) 0), (List.getD out_1 (Int.toNat t24_1) tL.dflt).2.2.1, (List.getD out_1 (Int.toNat t24_1) tL.dflt).2.2.2.1, ())) (Int.toNat t24_1) tL.dflt).2.1, (List.getD to_ (Int.toNat ((List.getD (List.set out_1 (Int.toNat t24_1) ((List.getD out_1 (Int.toNat t24_1) tL.dflt).1, (List.getD to_ (Int.toNat ((List.getD out_1 (Int.toNat t24_1) tL.dflt).2.1)) 0), (List.getD out_1 (Int.toNat t24_1) tL.dflt).2.2.1, (List.getD out_1 (Int.toNat t24_1) tL.dflt).2.2.2.1, ())) (Int.toNat t24_1) tL.dflt).2.2.1)) 0), (List.getD (List.set out_1 (Int.toNat t24_1) ((List.getD out_1 (Int.toNat t24_1) tL.dflt).1, (List.getD to_ (Int.toNat ((List.getD out_1 (Int.toNat t24_1) tL.dflt).2.1)) 0), (List.getD out_1 (Int.toNat t24_1) tL.dflt).2.2.1, (List.getD out_1 (Int.toNat t24_1) tL.dflt).2.2.2.1, ())) (Int.toNat t24_1) tL.dflt).2.2.2.1, ())) (Int.toNat t24_1) ((List.getD (List.set (List.set out_1 (Int.toNat t24_1) ((List.getD out_1 (Int.toNat t24_1) tL.dflt).1, (List.getD to_ (Int.toNat ((List.getD out_1 (Int.toNat t24_1) tL.dflt).2.1)) 0), (List.getD out_1 (Int.toNat t24_1) tL.dflt).2.2.1, (List.getD out_1 (Int.toNat t24_1) tL.dflt).2.2.2.1, ())) (Int.toNat t24_1) ((List.getD (List.set out_1 (Int.toNat t24_1) ((List.getD out_1 (Int.toNat t24_1) tL.dflt).1, (List.getD to_ (Int.toNat ((List.getD out_1 (Int.toNat t24_1) tL.dflt).2.1)) 0), (List.getD out_1 (Int.toNat t24_1) tL.dflt).2.2.1, (List.getD out_1 (Int.toNat t24_1) tL.dflt).2.2.2.1, ())) (Int.toNat t24_1) tL.dflt).1, (List.getD (List.set out_1 (Int.toNat t24_1) ((List.getD out_1 (Int.toNat t24_1) tL.dflt).1, (List.getD to_ (Int.toNat ((List.getD out_1 (Int.toNat t24_1) tL.dflt).2.1)) 0), (List.getD out_1 (Int.toNat t24_1) tL.dflt).2.2.1, (List.getD out_1 (Int.toNat t24_1) tL.dflt).2.2.2.1, ())) (Int.toNat t24_1) tL.dflt).2.1, (List.getD to_ (Int.toNat ((List.getD (List.set out_1 (Int.toNat t24_1) ((List.getD out_1 (Int.toNat t24_1) tL.dflt).1, (List.getD to_ (Int.toNat ((List.getD out_1 (Int.toNat t24_1) tL.dflt).2.1)) 0), (List.getD out_1 (Int.toNat t24_1) tL.dflt).2.2.1, (List.getD out_1 (Int.toNat t24_1) tL.dflt).2.2.2.1, ())) (Int.toNat t24_1) tL.dflt).2.2.1)) 0), (List.getD (List.set out_1 (Int.toNat t24_1) ((List.getD out_1 (Int.toNat t24_1) tL.dflt).1, (List.getD to_ (Int.toNat ((List.getD out_1 (Int.toNat t24_1) tL.dflt).2.1)) 0), (List.getD out_1 (Int.toNat t24_1) tL.dflt).2.2.1, (List.getD out_1 (Int.toNat t24_1) tL.dflt).2.2.2.1, ())) (Int.toNat t24_1) tL.dflt).2.2.2.1, ())) (Int.toNat t24_1) tL.dflt).1, (List.getD (List.set (List.set out_1 (Int.toNat t24_1) ((List.getD out_1 (Int.toNat t24_1) tL.dflt).1, (List.getD to_ (Int.toNat ((List.getD out_1 (Int.toNat t24_1) tL.dflt).2.1)) 0), (List.getD out_1 (Int.toNat t24_1) tL.dflt).2.2.1, (List.getD out_1 (Int.toNat t24_1) tL.dflt).2.2.2.1, ())) (Int.toNat t24_1) ((List.getD (List.set out_1 (Int.toNat t24_1) ((List.getD out_1 (Int.toNat t24_1) tL.dflt).1, (List.getD to_ (Int.toNat ((List.getD out_1 (Int.toNat t24_1) tL.dflt).2.1)) 0), (List.getD out_1 (Int.toNat t24_1) tL.dflt).2.2.1, (List.getD out_1 (Int.toNat t24_1) tL.dflt).2.2.2.1, ())) (Int.toNat t24_1) tL.dflt).1, (List.getD (List.set out_1 (Int.toNat t24_1) ((List.getD out_1 (Int.toNat t24_1) tL.dflt).1, (List.getD to_ (Int.toNat ((List.getD out_1 (Int.toNat t24_1) tL.dflt).2.1)) 0), (List.getD out_1 (Int.toNat t24_1) tL.dflt).2.2.1, (List.getD out_1 (Int.toNat t24_1) tL.dflt).2.2.2.1, ())) (Int.toNat t24_1) tL.dflt).2.1, (List.getD to_ (Int.toNat ((List.getD (List.set out_1 (Int.toNat t24_1) ((List.getD out_1 (Int.toNat t24_1) tL.dflt).1, (List.getD to_ (Int.toNat ((List.getD out_1 (Int.toNat t24_1) tL.dflt).2.1)) 0), (List.getD out_1 (Int.toNat t24_1) tL.dflt).2.2.1, (List.getD out_1 (Int.toNat t24_1) tL.dflt).2.2.2.1, ())) (Int.toNat t24_1) tL.dflt).2.2.1)) 0), (List.getD (List.set out_1 (Int.toNat t24_1) ((List.getD out_1 (Int.toNat t24_1) tL.dflt).1, (List.getD to_ (Int.toNat ((List.getD out_1 (Int.toNat t24_1) tL.dflt).2.1)) 0), (List.getD out_1 (Int.toNat t24_1) tL.dflt).2.2.1, (List.getD out_1 (Int.toNat t24_1) tL.dflt).2.2.2.1, ())) (Int.toNat t24_1) tL.dflt).2.2.2.1, ())) (Int.toNat t24_1) tL.dflt).2.1, (List.getD (List.set (List.set out_1 (Int.toNat t24_1) ((List.getD out_1 (Int.toNat t24_1) tL.dflt).1, (List.getD to_ (Int.toNat ((List.getD out_1 (Int.toNat t24_1) tL.dflt).2.1)) 0), (List.getD out_1 (Int.toNat t24_1) tL.dflt).2.2.1, (List.getD out_1 (Int.toNat t24_1) tL.dflt).2.2.2.1, ())) (Int.toNat t24_1) ((List.getD (List.set out_1 (Int.toNat t24_1) ((List.getD out_1 (Int.toNat t24_1) tL.dflt).1, (List.getD to_ (Int.toNat ((List.getD out_1 (Int.toNat t24_1) tL.dflt).2.1)) 0), (List.getD out_1 (Int.toNat t24_1) tL.dflt).2.2.1, (List.getD out_1 (Int.toNat t24_1) tL.dflt).2.2.2.1, ())) (Int.toNat t24_1) tL.dflt).1, (List.getD (List.set out_1 (Int.toNat t24_1) ((List.getD out_1 (Int.toNat t24_1) tL.dflt).1, (List.getD to_ (Int.toNat ((List.getD out_1 (Int.toNat t24_1) tL.dflt).2.1)) 0), (List.getD out_1 (Int.toNat t24_1) tL.dflt).2.2.1, (List.getD out_1 (Int.toNat t24_1) tL.dflt).2.2.2.1, ())) (Int.toNat t24_1) tL.dflt).2.1, (List.getD to_ (Int.toNat ((List.getD (List.set out_1 (Int.toNat t24_1) ((List.getD out_1 (Int.toNat t24_1) tL.dflt).1, (List.getD to_ (Int.toNat ((List.getD out_1 (Int.toNat t24_1) tL.dflt).2.1)) 0), (List.getD out_1 (Int.toNat t24_1) tL.dflt).2.2.1, (List.getD out_1 (Int.toNat t24_1) tL.dflt).2.2.2.1, ())) (Int.toNat t24_1) tL.dflt).2.2.1)) 0), (List.getD (List.set out_1 (Int.toNat t24_1) ((List.getD out_1 (Int.toNat t24_1) tL.dflt).1, (List.getD to_ (Int.toNat ((List.getD out_1 (Int.toNat t24_1) tL.dflt).2.1)) 0), (List.getD out_1 (Int.toNat t24_1) tL.dflt).2.2.1, (List.getD out_1 (Int.toNat t24_1) tL.dflt).2.2.2.1, ())) (Int.toNat t24_1) tL.dflt).2.2.2.1, ())) (Int.toNat t24_1) tL.dflt).2.2.1, (List.getD to_ (Int.toNat ((List.getD (List.set out_1 (Int.toNat t24_1) ((List.getD out_1 (Int.toNat t24_1) tL.dflt).1, (List.getD to_ (Int.toNat ((List.getD out_1 (Int.toNat t24_1) tL.dflt).2.1)) 0), (List.getD out_1 (Int.toNat t24_1) tL.dflt).2.2.1, (List.getD out_1 (Int.toNat t24_1) tL.dflt).2.2.2.1, ())) (Int.toNat t24_1) tL.dflt).2.2.2.1)) 0), ()))))) else (inI (t24_1 + (1 : Int)) ∧ Λ1 (t24_1 + (1 : Int)) (List.set out_1 (Int.toNat t24_1) ((List.getD out_1 (Int.toNat t24_1) tL.dflt).1, (List.getD to_ (Int.toNat ((List.getD out_1 (Int.toNat t24_1) tL.dflt).2.1)) 0), (List.getD out_1 (Int.toNat t24_1) tL.dflt).2.2.1, (List.getD out_1 (Int.toNat t24_1) tL.dflt).2.2.2.1, ())))) else (if ((List.getD (List.set out_1 (Int.toNat t24_1) ((List.getD out_1 (Int.toNat t24_1) tL.dflt).1, (List.getD to_ (Int.toNat ((List.getD out_1 (Int.toNat t24_1) tL.dflt).2.1)) 0), (List.getD out_1 (Int.toNat t24_1) tL.dflt).2.2.1, (List.getD out_1 (Int.toNat t24_1) tL.dflt).2.2.2.1, ())) (Int.toNat t24_1) tL.dflt).1 == (7 : Int)) = true then (idx ((List.getD (List.set out_1 (Int.toNat t24_1) ((List.getD out_1 (Int.toNat t24_1) tL.dflt).1, (List.getD to_ (Int.toNat ((List.getD out_1 (Int.toNat t24_1) tL.dflt).2.1)) 0), (List.getD out_1 (Int.toNat t24_1) tL.dflt).2.2.1, (List.getD out_1 (Int.toNat t24_1) tL.dflt).2.2.2.1, ())) (Int.toNat t24_1) tL.dflt).2.2.1) (List.length to_ : Int) ∧ (idx ((List.getD (List.set out_1 (Int.toNat t24_1) ((List.getD out_1 (Int.toNat t24_1) tL.dflt).1, (List.getD to_ (Int.toNat ((List.getD out_1 (Int.toNat t24_1) tL.dflt).2.1)) 0), (List.getD out_1 (Int.toNat t24_1) tL.dflt).2.2.1, (List.getD out_1 (Int.toNat t24_1) tL.dflt).2.2.2.1, ())) (Int.toNat t24_1) tL.dflt).2.2.2.1) (List.length to_ : Int) ∧ (inI (t24_1 + (1 : Int)) ∧ Λ1 (t24_1 + (1 : Int)) (List.set (List.set (List.set out_1 (Int.toNat t24_1) ((List.getD out_1 (Int.toNat t24_1) tL.dflt).1, (List.getD to_ (Int.toNat ((List.getD out_1 (Int.toNat t24_1) tL.dflt).2.1)) 0), (List.getD out_1 (Int.toNat t24_1) tL.dflt).2.2.1, (List.getD out_1 (Int.toNat t24_1) tL.dflt).2.2.2.1, ())) (Int.toNat t24_1) ((List.getD (List.set out_1 (Int.toNat t24_1) ((List.getD out_1 (Int.toNat t24_1) tL.dflt).1, (List.getD to_ (Int.toNat ((List.getD out_1 (Int.toNat t24_1) tL.dflt).2.1)) 0), (List.getD out_1 (Int.toNat t24_1) tL.dflt).2.2.1, (List.getD out_1 (Int.toNat t24_1) tL.dflt).2.2.2.1, ())) (Int.toNat t24_1) tL.dflt).1, (List.getD (List.set out_1 (Int.toNat t24_1) ((List.getD out_1 (Int.toNat t24_1) tL.dflt).1, (List.getD to_ (Int.toNat ((List.getD out_1 (Int.toNat t24_1) tL.dflt).2.1)) 0), (List.getD out_1 (Int.toNat t24_1) tL.dflt).2.2.1, (List.getD out_1 (Int.toNat t24_1) tL.dflt).2.2.2.1, ())) (Int.toNat t24_1) tL.dflt).2.1, (List.getD to_ (Int.toNat ((List.getD (List.set out_1 (Int.toNat t24_1) ((List.getD out_1 (Int.toNat t24_1) tL.dflt).1, (List.getD to_ (Int.toNat ((List.getD out_1 (Int.toNat t24_1) tL.dflt).2.1)) 0), (List.getD out_1 (Int.toNat t24_1) tL.dflt).2.2.1, (List.getD out_1 (Int.toNat t24_1) tL.dflt).2.2.2.1, ())) (Int.toNat t24_1) tL.dflt).2.2.1)) 0), (List.getD (List.set out_1 (Int.toNat t24_1) ((List.getD out_1 (Int.toNat t24_1) tL.dflt).1, (List.getD to_ (Int.toNat ((List.getD out_1 (Int.toNat t24_1) tL.dflt).2.1)) 0), (List.getD out_1 (Int.toNat t24_1) tL.dflt).2.2.1, (List.getD out_1 (Int.toNat t24_1) tL.dflt).2.2.2.1, ())) (Int.toNat t24_1) tL.dflt).2.2.2.1, ())) (Int.toNat t24_1) ((List.getD (List.set (List.set out_1 (Int.toNat t24_1) ((List.getD out_1 (Int.toNat t24_1) tL.dflt).1, (List.getD to_ (Int.toNat ((List.getD out_1 (Int.toNat t24_1) tL.dflt).2.1)) 0), (List.getD out_1 (Int.toNat t24_1) tL.dflt).2.2.1, (List.getD out_1 (Int.toNat t24_1) tL.dflt).2.2.2.1, ())) (Int.toNat t24_1) ((List.getD (List.set out_1 (Int.toNat t24_1) ((List.getD out_1 (Int.toNat t24_1) tL.dflt).1, (List.getD to_ (Int.toNat ((List.getD out_1 (Int.toNat t24_1) tL.dflt).2.1)) 0), (List.getD out_1 (Int.toNat t24_1) tL.dflt).2.2.1, (List.getD out_1 (Int.toNat t24_1) tL.dflt).2.2.2.1, ())) (Int.toNat t24_1) tL.dflt).1, (List.getD (List.set out_1 (Int.toNat t24_1) ((List.getD out_1 (Int.toNat t24_1) tL.dflt).1, (List.getD to_ (Int.toNat ((List.getD out_1 (Int.toNat t24_1) tL.dflt).2.1)) 0), (List.getD out_1 (Int.toNat t24_1) tL.dflt).2.2.1, (List.getD out_1 (Int.toNat t24_1) tL.dflt).2.2.2.1, ())) (Int.toNat t24_1) tL.dflt).2.1, (List.getD to_ (Int.toNat ((List.getD (List.set out_1 (Int.toNat t24_1) ((List.getD out_1 (Int.toNat t24_1) tL.dflt).1, (List.getD to_ (Int.toNat ((List.getD out_1 (Int.toNat t24_1) tL.dflt).2.1)) 0), (List.getD out_1 (Int.toNat t24_1) tL.dflt).2.2.1, (List.getD out_1 (Int.toNat t24_1) tL.dflt).2.2.2.1, ())) (Int.toNat t24_1) tL.dflt).2.2.1)) 0), (List.getD (List.set out_1 (Int.toNat t24_1) ((List.getD out_1 (Int.toNat t24_1) tL.dflt).1, (List.getD to_ (Int.toNat ((List.getD out_1 (Int.toNat t24_1) tL.dflt).2.1)) 0), (List.getD out_1 (Int.toNat t24_1) tL.dflt).2.2.1, (List.getD out_1 (Int.toNat t24_1) tL.dflt).2.2.2.1, ())) (Int.toNat t24_1) tL.dflt).2.2.2.1, ())) (Int.toNat t24_1) tL.dflt).1, (List.getD (List.set (List.set out_1 (Int.toNat t24_1) ((List.getD out_1 (Int.toNat t24_1) tL.dflt).1, (List.getD to_ (Int.toNat ((List.getD out_1 (Int.toNat t24_1) tL.dflt).2.1)) 0), (List.getD out_1 (Int.toNat t24_1) tL.dflt).2.2.1, (List.getD out_1 (Int.toNat t24_1) tL.dflt).2.2.2.1, ())) (Int.toNat t24_1) ((List.getD (List.set out_1 (Int.toNat t24_1) ((List.getD out_1 (Int.toNat t24_1) tL.dflt).1, (List.getD to_ (Int.toNat ((List.getD out_1 (Int.toNat t24_1) tL.dflt).2.1)) 0), (List.getD out_1 (Int.toNat t24_1) tL.dflt).2.2.1, (List.getD out_1 (Int.toNat t24_1) tL.dflt).2.2.2.1, ())) (Int.toNat t24_1) tL.dflt).1, (List.getD (List.set out_1 (Int.toNat t24_1) ((List.getD out_1 (Int.toNat t24_1) tL.dflt).1, (List.getD to_ (Int.toNat ((List.getD out_1 (Int.toNat t24_1) tL.dflt).2.1)) 0), (List.getD out_1 (Int.toNat t24_1) tL.dflt).2.2.1, (List.getD out_1 (Int.toNat t24_1) tL.dflt).2.2.2.1, ())) (Int.toNat t24_1) tL.dflt).2.1, (List.getD to_ (Int.toNat ((List.getD (List.set out_1 (Int.toNat t24_1) ((List.getD out_1 (Int.toNat t24_1) tL.dflt).1, (List.getD to_ (Int.toNat ((List.getD out_1 (Int.toNat t24_1) tL.dflt).2.1)) 0), (List.getD out_1 (Int.toNat t24_1) tL.dflt).2.2.1, (List.getD out_1 (Int.toNat t24_1) tL.dflt).2.2.2.1, ())) (Int.toNat t24_1) tL.dflt).2.2.1)) 0), (List.getD (List.set out_1 (Int.toNat t24_1) ((List.getD out_1 (Int.toNat t24_1) tL.dflt).1, (List.getD to_ (Int.toNat ((List.getD out_1 (Int.toNat t24_1) tL.dflt).2.1)) 0), (List.getD out_1 (Int.toNat t24_1) tL.dflt).2.2.1, (List.getD out_1 (Int.toNat t24_1) tL.dflt).2.2.2.1, ())) (Int.toNat t24_1) tL.dflt).2.2.2.1, ())) (Int.toNat t24_1) tL.dflt).2.1, (List.getD (List.set (List.set out_1 (Int.toNat t24_1) ((List.getD out_1 (Int.toNat t24_1) tL.dflt).1, (List.getD to_ (Int.toNat ((List.getD out_1 (Int.toNat t24_1) tL.dflt).2.1)) 0), (List.getD out_1 (Int.toNat t24_1) tL.dflt).2.2.1, (List.getD out_1 (Int.toNat t24_1) tL.dflt).2.2.2.1, ())) (Int.toNat t24_1) ((List.getD (List.set out_1 (Int.toNat t24_1) ((List.getD out_1 (Int.toNat t24_1) tL.dflt).1, (List.getD to_ (Int.toNat ((List.getD out_1 (Int.toNat t24_1) tL.dflt).2.1)) 0), (List.getD out_1 (Int.toNat t24_1) tL.dflt).2.2.1, (List.getD out_1 (Int.toNat t24_1) tL.dflt).2.2.2.1, ())) (Int.toNat t24_1) tL.dflt).1, (List.getD (List.set out_1 (Int.toNat t24_1) ((List.getD out_1 (Int.toNat t24_1) tL.dflt).1, (List.getD to_ (Int.toNat ((List.getD out_1 (Int.toNat t24_1) tL.dflt).2.1)) 0), (List.getD out_1 (Int.toNat t24_1) tL.dflt).2.2.1, (List.getD out_1 (Int.toNat t24_1) tL.dflt).2.2.2.1, ())) (Int.toNat t24_1) tL.dflt).2.1, (List.getD to_ (Int.toNat ((List.getD (List.set out_1 (Int.toNat t24_1) ((List.getD out_1 (Int.toNat t24_1) tL.dflt).1, (List.getD to_ (Int.toNat ((List.getD out_1 (Int.toNat t24_1) tL.dflt).2.1)) 0), (List.getD out_1 (Int.toNat t24_1) tL.dflt).2.2.1, (List.getD out_1 (Int.toNat t24_1) tL.dflt).2.2.2.1, ())) (Int.toNat t24_1) tL.dflt).2.2.1)) 0), (List.getD (List.set out_1 (Int.toNat t24_1) ((List.getD out_1 (Int.toNat t24_1) tL.dflt).1, (List.getD to_ (Int.toNat ((List.getD out_1 (Int.toNat t24_1) tL.dflt).2.1)) 0), (List.getD out_1 (Int.toNat t24_1) tL.dflt).2.2.1, (List.getD out_1 (Int.toNat t24_1) tL.dflt).2.2.2.1, ())) (Int.toNat t24_1) tL.dflt).2.2.2.1, ())) (Int.toNat t24_1) tL.dflt).2.2.1, (List.getD to_ (Int.toNat ((List.getD (List.set out_1 (Int.toNat t24_1) ((List.getD out_1 (Int.toNat t24_1) tL.dflt).1, (List.getD to_ (Int.toNat ((List.getD out_1 (Int.toNat t24_1) tL.dflt).2.1)) 0), (List.getD out_1 (Int.toNat t24_1) tL.dflt).2.2.1, (List.getD out_1 (Int.toNat t24_1) tL.dflt).2.2.2.1, ())) (Int.toNat t24_1) tL.dflt).2.2.2.1)) 0), ()))))) else (inI (t24_1 + (1 : Int)) ∧ Λ1 (t24_1 + (1 : Int)) (List.set out_1 (Int.toNat t24_1) ((List.getD out_1 (Int.toNat t24_1) tL.dflt).1, (List.getD to_ (Int.toNat ((List.getD out_1 (Int.toNat t24_1) tL.dflt).2.1)) 0), (List.getD out_1 (Int.toNat t24_1) tL.dflt).2.2.1, (List.getD out_1 (Int.toNat t24_1) tL.dflt).2.2.2.1, ())))))))))) else (if ((List.getD out_1 (Int.toNat t24_1) tL.dflt).1 == (2 : Int)) = true then (idx ((List.getD out_1 (Int.toNat t24_1) tL.dflt).2.2.1) (List.length to_ : Int) ∧ (inI (t24_1 + (1 : Int)) ∧ Λ1 (t24_1 + (1 : Int)) (List.set out_1 (Int.toNat t24_1) ((List.getD out_1 (Int.toNat t24_1) tL.dflt).1, (List.getD out_1 (Int.toNat t24_1) tL.dflt).2.1, (List.getD to_ (Int.toNat ((List.getD out_1 (Int.toNat t24_1) tL.dflt).2.2.1)) 0), (List.getD out_1 (Int.toNat t24_1) tL.dflt).2.2.2.1, ())))) else (if ((List.getD out_1 (Int.toNat t24_1) tL.dflt).1 == (3 : Int)) = true then (if ((List.getD out_1 (Int.toNat t24_1) tL.dflt).1 == (3 : Int)) = true then (idx ((List.getD out_1 (Int.toNat t24_1) tL.dflt).2.2.1) (List.length to_ : Int) ∧ (idx ((List.getD out_1 (Int.toNat t24_1) tL.dflt).2.2.2.1) (List.length to_ : Int) ∧ (inI (t24_1 + (1 : Int)) ∧ Λ1 (t24_1 + (1 : Int)) (List.set (List.set out_1 (Int.toNat t24_1) ((List.getD out_1 (Int.toNat t24_1) tL.dflt).1, (List.getD out_1 (Int.toNat t24_1) tL.dflt).2.1, (List.getD to_ (Int.toNat ((List.getD out_1 (Int.toNat t24_1) tL.dflt).2.2.1)) 0), (List.getD out_1 (Int.toNat t24_1) tL.dflt).2.2.2.1, ())) (Int.toNat t24_1) ((List.getD (List.set out_1 (Int.toNat t24_1) ((List.getD out_1 (Int.toNat t24_1) tL.dflt).1, (List.getD out_1 (Int.toNat t24_1) tL.dflt).2.1, (List.getD to_ (Int.toNat ((List.getD out_1 (Int.toNat t24_1) tL.dflt).2.2.1)) 0), (List.getD out_1 (Int.toNat t24_1) tL.dflt).2.2.2.1, ())) (Int.toNat t24_1) tL.dflt).1, (List.getD (List.set out_1 (Int.toNat t24_1) ((List.getD out_1 (Int.toNat t24_1) tL.dflt).1, (List.getD out_1 (Int.toNat t24_1) tL.dflt).2.1, (List.getD to_ (Int.toNat ((List.getD out_1 (Int.toNat t24_1) tL.dflt).2.2.1)) 0), (List.getD out_1 (Int.toNat t24_1) tL.dflt).2.2.2.1, ())) (Int.toNat t24_1) tL.dflt).2.1, (List.getD (List.set out_1 (Int.toNat t24_1) ((List.getD out_1 (Int.toNat t24_1) tL.dflt).1, (List.getD out_1 (Int.toNat t24_1) tL.dflt).2.1, (List.getD to_ (Int.toNat ((List.getD out_1 (Int.toNat t24_1) tL.dflt).2.2.1)) 0), (List.getD out_1 (Int.toNat t24_1) tL.dflt).2.2.2.1, ())) (Int.toNat t24_1) tL.dflt).2.2.1, (List.getD to_ (Int.toNat ((List.getD out_1 (Int.toNat t24_1) tL.dflt).2.2.2.1)) 0), ()))))) else (inI (t24_1 + (1 : Int)) ∧ Λ1 (t24_1 + (1 : Int)) out_1)) else (if ((List.getD out_1 (Int.toNat t24_1) tL.dflt).1 == (4 : Int)) = true then (if ((List.getD out_1 (Int.toNat t24_1) tL.dflt).1 == (4 : Int)) = true then (idx ((List.getD out_1 (Int.toNat t24_1) tL.dflt).2.2.1) (List.length to_ : Int) ∧ (idx ((List.getD out_1 (Int.toNat t24_1) tL.dflt).2.2.2.1) (List.length to_ : Int) ∧ (inI (t24_1 + (1 : Int)) ∧ Λ1 (t24_1 + (1 : Int)) (List.set (List.set out_1 (Int.toNat t24_1) ((List.getD out_1 (Int.toNat t24_1) tL.dflt).1, (List.getD out_1 (Int.toNat t24_1) tL.dflt).2.1, (List.getD to_ (Int.toNat ((List.getD out_1 (Int.toNat t24_1) tL.dflt).2.2.1)) 0), (List.getD out_1 (Int.toNat t24_1) tL.dflt).2.2.2.1, ())) (Int.toNat t24_1) ((List.getD (List.set out_1 (Int.toNat t24_1) ((List.getD out_1 (Int.toNat t24_1) tL.dflt).1, (List.getD out_1 (Int.toNat t24_1) tL.dflt).2.1, (List.getD to_ (Int.toNat ((List.getD out_1 (Int.toNat t24_1) tL.dflt).2.2.1)) 0), (List.getD out_1 (Int.toNat t24_1) tL.dflt).2.2.2.1, ())) (Int.toNat t24_1) tL.dflt).1, (List.getD (List.set out_1 (Int.toNat t24_1) ((List.getD out_1 (Int.toNat t24_1) tL.dflt).1, (List.getD out_1 (Int.toNat t24_1) tL.dflt).2.1, (List.getD to_ (Int.toNat ((List.getD out_1 (Int.toNat t24_1) tL.dflt).2.2.1)) 0), (List.getD out_1 (Int.toNat t24_1) tL.dflt).2.2.2.1, ())) (Int.toNat t24_1) tL.dflt).2.1, (List.getD (List.set out_1 (Int.toNat t24_1) ((List.getD out_1 (Int.toNat t24_1) tL.dflt).1, (List.getD out_1 (Int.toNat t24_1) tL.dflt).2.1, (List.getD to_ (Int.toNat ((List.getD out_1 (Int.toNat t24_1) tL.dflt).2.2.1)) 0), (List.getD out_1 (Int.toNat t24_1) tL.dflt).2.2.2.1, ())) (Int.toNat t24_1) tL.dflt).2.2.1, (List.getD to_ (Int.toNat ((List.getD out_1 (Int.toNat t24_1) tL.dflt).2.2.2.1)) 0), ()))))) else (inI (t24_1 + (1 : Int)) ∧ Λ1 (t24_1 + (1 : Int)) out_1)) else (if ((List.getD out_1 (Int.toNat t24_1) tL.dflt).1 == (5 : Int)) = true then (if ((List.getD out_1 (Int.toNat t24_1) tL.dflt).1 == (5 : Int)) = true then (idx ((List.getD out_1 (Int.toNat t24_1) tL.dflt).2.2.1) (List.length to_ : Int) ∧ (idx ((List.getD out_1 (Int.toNat t24_1) tL.dflt).2.2.2.1) (List.length to_ : Int) ∧ (inI (t24_1 + (1 : Int)) ∧ Λ1 (t24_1 + (1 : Int)) (List.set (List.set out_1 (Int.toNat t24_1) ((List.getD out_1 (Int.toNat t24_1) tL.dflt).1, (List.getD out_1 (Int.toNat t24_1) tL.dflt).2.1, (List.getD to_ (Int.toNat ((List.getD out_1 (Int.toNat t24_1) tL.dflt).2.2.1)) 0), (List.getD out_1 (Int.toNat t24_1) tL.dflt).2.2.2.1, ())) (Int.toNat t24_1) ((List.getD (List.set out_1 (Int.toNat t24_1) ((List.getD out_1 (Int.toNat t24_1) tL.dflt).1, (List.getD out_1 (Int.toNat t24_1) tL.dflt).2.1, (List.getD to_ (Int.toNat ((List.getD out_1 (Int.toNat t24_1) tL.dflt).2.2.1)) 0), (List.getD out_1 (Int.toNat t24_1) tL.dflt).2.2.2.1, ())) (Int.toNat t24_1) tL.dflt).1, (List.getD (List.set out_1 (Int.toNat t24_1) ((List.getD out_1 (Int.toNat t24_1) tL.dflt).1, (List.getD out_1 (Int.toNat t24_1) tL.dflt).2.1, (List.getD to_ (Int.toNat ((List.getD out_1 (Int.toNat t24_1) tL.dflt).2.2.1)) 0), (List.getD out_1 (Int.toNat t24_1) tL.dflt).2.2.2.1, ())) (Int.toNat t24_1) tL.dflt).2.1, (List.getD (List.set out_1 (Int.toNat t24_1) ((List.getD out_1 (Int.toNat t24_1) tL.dflt).1, (List.getD out_1 (Int.toNat t24_1) tL.dflt).2.1, (List.getD to_ (Int.toNat ((List.getD out_1 (Int.toNat t24_1) tL.dflt).2.2.1)) 0), (List.getD out_1 (Int.toNat t24_1) tL.dflt).2.2.2.1, ())) (Int.toNat t24_1) tL.dflt).2.2.1, (List.getD to_ (Int.toNat ((List.getD out_1 (Int.toNat t24_1) tL.dflt).2.2.2.1)) 0), ()))))) else (inI (t24_1 + (1 : Int)) ∧ Λ1 (t24_1 + (1 : Int)) out_1)) else (if ((List.getD out_1 (Int.toNat t24_1) tL.dflt).1 == (6 : Int)) = true then (if ((List.getD out_1 (Int.toNat t24_1) tL.dflt).1 == (6 : Int)) = true then (idx ((List.getD out_1 (Int.toNat t24_1) tL.dflt).2.2.1) (List.length to_ : Int) ∧ (idx ((List.getD out_1 (Int.toNat t24_1) tL.dflt).2.2.2.1) (List.length to_ : Int) ∧ (inI (t24_1 + (1 : Int)) ∧ Λ1 (t24_1 + (1 : Int)) (List.set (List.set out_1 (Int.toNat t24_1) ((List.getD out_1 (Int.toNat t24_1) tL.dflt).1, (List.getD out_1 (Int.toNat t24_1) tL.dflt).2.1, (List.getD to_ (Int.toNat ((List.getD out_1 (Int.toNat t24_1) tL.dflt).2.2.1)) 0), (List.getD out_1 (Int.toNat t24_1) tL.dflt).2.2.2.1, ())) (Int.toNat t24_1) ((List.getD (List.set out_1 (Int.toNat t24_1) ((List.getD out_1 (Int.toNat t24_1) tL.dflt).1, (List.getD out_1 (Int.toNat t24_1) tL.dflt).2.1, (List.getD to_ (Int.toNat ((List.getD out_1 (Int.toNat t24_1) tL.dflt).2.2.1)) 0), (List.getD out_1 (Int.toNat t24_1) tL.dflt).2.2.2.1, ())) (Int.toNat t24_1) tL.dflt).1, (List.getD (List.set out_1 (Int.toNat t24_1) ((List.getD out_1 (Int.toNat t24_1) tL.dflt).1, (List.getD out_1 (Int.toNat t24_1) tL.dflt).2.1, (List.getD to_ (Int.toNat ((List.getD out_1 (Int.toNat t24_1) tL.dflt).2.2.1)) 0), (List.getD out_1 (Int.toNat t24_1) tL.dflt).2.2.2.1, ())) (Int.toNat t24_1) tL.dflt).2.1, (List.getD (List.set out_1 (Int.toNat t24_1) ((List.getD out_1 (Int.toNat t24_1) tL.dflt).1, (List.getD out_1 (Int.toNat t24_1) tL.dflt).2.1, (List.getD to_ (Int.toNat ((List.getD out_1 (Int.toNat t24_1) tL.dflt).2.2.1)) 0), (List.getD out_1 (Int.toNat t24_1) tL.dflt).2.2.2.1, ())) (Int.toNat t24_1) tL.dflt).2.2.1, (List.getD to_ (Int.toNat ((List.getD out_1 (Int.toNat t24_1) tL.dflt).2.2.2.1)) 0), ()))))) else (inI (t24_1 + (1 : Int)) ∧ Λ1 (t24_1 + (1 : Int)) out_1)) else (if ((List.getD out_1 (Int.toNat t24_1) tL.dflt).1 == (7 : Int)) = true then (idx ((List.getD out_1 (Int.toNat t24_1) tL.dflt).2.2.1) (List.length to_ : Int) ∧ (idx ((List.getD out_1 (Int.toNat t24_1) tL.dflt).2.2.2.1) (List.length to_ : Int) ∧ (inI (t24_1 + (1 : Int)) ∧ Λ1 (t24_1 + (1 : Int)) (List.set (List.set out_1 (Int.toNat t24_1) ((List.getD out_1 (Int.toNat t24_1) tL.dflt).1, (List.getD out_1 (Int.toNat t24_1) tL.dflt).2.1, (List.getD to_ (Int.toNat ((List.getD out_1 (Int.toNat t24_1) tL.dflt).2.2.1)) 0), (List.getD out_1 (Int.toNat t24_1) tL.dflt).2.2.2.1, ())) (Int.toNat t24_1) ((List.getD (List.set out_1 (Int.toNat t24_1) ((List.getD out_1 (Int.toNat t24_1) tL.dflt).1, (List.getD out_1 (Int.toNat t24_1) tL.dflt).2.1, (List.getD to_ (Int.toNat ((List.getD out_1 (Int.toNat t24_1) tL.dflt).2.2.1)) 0), (List.getD out_1 (Int.toNat t24_1) tL.dflt).2.2.2.1, ())) (Int.toNat t24_1) tL.dflt).1, (List.getD (List.set out_1 (Int.toNat t24_1) ((List.getD out_1 (Int.toNat t24_1) tL.dflt).1, (List.getD out_1 (Int.toNat t24_1) tL.dflt).2.1, (List.getD to_ (Int.toNat ((List.getD out_1 (Int.toNat t24_1) tL.dflt).2.2.1)) 0), (List.getD out_1 (Int.toNat t24_1) tL.dflt).2.2.2.1, ())) (Int.toNat t24_1) tL.dflt).2.1, (List.getD (List.set out_1 (Int.toNat t24_1) ((List.getD out_1 (Int.toNat t24_1) tL.dflt).1, (List.getD out_1 (Int.toNat t24_1) tL.dflt).2.1, (List.getD to_ (Int.toNat ((List.getD out_1 (Int.toNat t24_1) tL.dflt).2.2.1)) 0), (List.getD out_1 (Int.toNat t24_1) tL.dflt).2.2.2.1, ())) (Int.toNat t24_1) tL.dflt).2.2.1, (List.getD to_ (Int.toNat ((List.getD out_1 (Int.toNat t24_1) tL.dflt).2.2.2.1)) 0), ()))))) else (inI (t24_1 + (1 : Int)) ∧ Λ1 (t24_1 + (1 : Int)) out_1)))))))))) else ((0 : Int) = y1 ∧ out_1 = y0)
theorem cRename_law (h : ∀ (p : (List Lin)) (to_ : (List Int)), cRename.A.wf (p, to_, ()) → ∀ (Λ1 : Int → (List Lin) → Prop), (∀ (t24_1 : Int) (out_1 : (List Lin)), cRename_1 Λ1 p to_ (if renE p to_ = 0 then renP to_ p else []) (renE p to_) t24_1 out_1 → Λ1 t24_1 out_1) → cRename_0 Λ1 p to_ (if renE p to_ = 0 then renP to_ p else []) (renE p to_)) : ConOK Go.Proofs.Try.prog 15 cRename := by
  refine lawL (Γ := [(34, cCloneL), (36, cIsOrd), (33, cValP), (23, cWrites1)]) (Θ := Th) (n := 92) [([1, 1, 1, 1, 0, 1, 0], ⟨[(1, false), (7, true), (23, true), (24, true)], [(21, true)]⟩)] ⟨cCloneL_ok, cIsOrd_ok, cValP_ok, cWrites1_ok, trivial⟩ (by kernel_rfl) th_ok mix_ok Go.Proofs.Try.func15 (by kernel_rfl) ?_
  intro x hw hp Λ hC
  have h0 := h x.1 x.2.1 hw (fun t24_1 out_1 => Λ [1, 1, 1, 1, 0, 1, 0] ([(1, .d false (.sl .int) x.2.1), (7, .own 21 0), (23, .d true .int (List.length x.1 : Int)), (24, .d true .int t24_1)], [(21, .sl true tL out_1)])) (fun t24_1 out_1 hb => hC [1, 1, 1, 1, 0, 1, 0] ([(1, .d false (.sl .int) x.2.1), (7, .own 21 0), (23, .d true .int (List.length x.1 : Int)), (24, .d true .int t24_1)], [(21, .sl true tL out_1)]) (Eq.mpr (by kernel_rfl) hb))
  exact Eq.mpr (by kernel_rfl) h0
theorem cRename_ok : ConOK Go.Proofs.Try.prog 15 cRename := by
  refine cRename_law ?_
  intro p to_ hw Λ1 h1
  unfold cRename_0
  have hpl : p.length ≤ 140737488355328 := hw.1.1
  refine ⟨trivial, ?_⟩
  by_cases hv : validP p = 0
  · obtain ⟨h8, hall⟩ := validP_ok hv
    rw [if_neg (by simp [hv])]
    refine ⟨trivial, ?_⟩
    cases ho : isOrdB to_
    · have hE : renE p to_ = 1 := by unfold renE; rw [if_neg (by simp [hv]), ho]; rfl
      rw [if_pos (by rfl), hE]
      exact ⟨rfl, rfl⟩
    · have hE : renE p to_ = 0 := by unfold renE; rw [if_neg (by simp [hv]), ho]; rfl
      have hol : to_.length = 4 := by unfold isOrdB at ho; simp only [Bool.and_eq_true, decide_eq_true_eq] at ho; exact ho.1
      rw [if_neg (by simp)]
      refine ⟨by omega, ?_⟩
      refine upto (n := p.length) (Q := fun i => Λ1 (i : Int) (renK to_ p i)) ?_ ?_ 0 (Nat.zero_le _)
      · apply h1; unfold cRename_1
        rw [if_neg (by simp), hE, if_pos rfl, renK_all]
        exact ⟨rfl, rfl⟩
      · intro i hi ih
        apply h1; unfold cRename_1
        have hlen := renK_len to_ p i
        have hg := renK_get to_ hi
        have hset := renK_set to_ hi
        have hin : inI ((i : Int) + 1) := inI_succ hi hpl
        have ih : Λ1 ((i : Int) + 1) (renK to_ p (i + 1)) := ih
        rw [← hset] at ih
        clear hset
        generalize renK to_ p i = out at hlen hg ih ⊢
        have hlt : i < out.length := by omega
        have hr := line_regs (validLine_at hall hi)
        rw [if_pos (by simpa using hi), Int.toNat_natCast]
        simp only [getD_set_same, List.set_set, List.length_set, hlt, hg]
        refine ⟨⟨by omega, by omega⟩, trivial, ?_⟩
        have hself : out.set i (List.getD p i tL.dflt) = out := by rw [← hg]; exact set_getD hlt
        generalize List.getD p i tL.dflt = l at *
        obtain ⟨op, t, x, y, ⟨⟩⟩ := l
        dsimp only at hr ⊢
        have hT : 1 ≤ op ∧ op ≤ 6 → idx t (to_.length : Int) := fun h => by have := hr.2.2.1 h; exact ⟨by omega, by omega⟩
        have hA : 2 ≤ op ∧ op ≤ 7 → idx x (to_.length : Int) := fun h => by have := hr.1 h; exact ⟨by omega, by omega⟩
        have hB : 3 ≤ op ∧ op ≤ 7 → idx y (to_.length : Int) := fun h => by have := hr.2.1 h; exact ⟨by omega, by omega⟩
        have c : op = 0 ∨ op = 1 ∨ op = 2 ∨ op = 3 ∨ op = 4 ∨ op = 5 ∨ op = 6 ∨ op = 7 := by omega
        rcases c with rfl | rfl | rfl | rfl | rfl | rfl | rfl | rfl
        · have w : writes (0, t, x, y, ()) = false := rfl
          simp only [w, Int.reduceBEq, Bool.false_eq_true, if_false, if_true]
          have e : renL to_ (0, t, x, y, ()) = (0, t, x, y, ()) := rfl
          rw [e, hself] at ih
          exact ⟨hin, ih⟩
        · have w : writes (1, t, x, y, ()) = true := rfl
          simp only [w, Int.reduceBEq, Bool.false_eq_true, if_false, if_true]
          exact ⟨hT ⟨by omega, by omega⟩, hin, ih⟩
        · have w : writes (2, t, x, y, ()) = true := rfl
          simp only [w, Int.reduceBEq, Bool.false_eq_true, if_false, if_true]
          exact ⟨hT ⟨by omega, by omega⟩, hA ⟨by omega, by omega⟩, hin, ih⟩
        · have w : writes (3, t, x, y, ()) = true := rfl
          simp only [w, Int.reduceBEq, Bool.false_eq_true, if_false, if_true]
          exact ⟨hT ⟨by omega, by omega⟩, hA ⟨by omega, by omega⟩, hB ⟨by omega, by omega⟩, hin, ih⟩
        · have w : writes (4, t, x, y, ()) = true := rfl
          simp only [w, Int.reduceBEq, Bool.false_eq_true, if_false, if_true]
          exact ⟨hT ⟨by omega, by omega⟩, hA ⟨by omega, by omega⟩, hB ⟨by omega, by omega⟩, hin, ih⟩
        · have w : writes (5, t, x, y, ()) = true := rfl
          simp only [w, Int.reduceBEq, Bool.false_eq_true, if_false, if_true]
          exact ⟨hT ⟨by omega, by omega⟩, hA ⟨by omega, by omega⟩, hB ⟨by omega, by omega⟩, hin, ih⟩
        · have w : writes (6, t, x, y, ()) = true := rfl
          simp only [w, Int.reduceBEq, Bool.false_eq_true, if_false, if_true]
          exact ⟨hT ⟨by omega, by omega⟩, hA ⟨by omega, by omega⟩, hB ⟨by omega, by omega⟩, hin, ih⟩
        · have w : writes (7, t, x, y, ()) = false := rfl
          simp only [w, Int.reduceBEq, Bool.false_eq_true, if_false, if_true]
          exact ⟨hA ⟨by omega, by omega⟩, hB ⟨by omega, by omega⟩, hin, ih⟩
  · have hE : renE p to_ = validP p := by unfold renE; rw [if_pos hv]
    rw [if_pos (by simpa using hv), hE, if_neg hv]
    exact ⟨rfl, rfl⟩
abbrev cMove : Con := { A := (.cons (.sl .int) (.cons (.sl .int) .nil)), R := (.cons (.osl .int) (.cons .int .nil)), pre := fun x => True, F := fun x => ((if movE x.1 x.2.1 = 0 then movS x.1 x.2.1 else []), movE x.1 x.2.1, ()) }
def cMove_0 (Λ1 : Int → (List Int) → Prop) (in_ : (List Int)) (to_ : (List Int)) (y0 : (List Int)) (y1 : Int) : Prop :=
  True ∧ (if ((argErr (validS in_)) != (0 : Int)) = true then ((argErr (validS in_)) = y1 ∧ ([] : List Int) = y0) else (True ∧ (if (!(isOrdB to_)) = true then ((1 : Int) = y1 ∧ ([] : List Int) = y0) else (mkLen (List.length in_ : Int) (List.length in_ : Int) ∧ Λ1 (0 : Int) (List.replicate (Int.toNat (List.length in_ : Int)) (0 : Int))))))
def cMove_1 (Λ1 : Int → (List Int) → Prop) (in_ : (List Int)) (to_ : (List Int)) (y0 : (List Int)) (y1 : Int)  (t23_1 : Int) (out_1 : (List Int)) : Prop :=
  if (decide (t23_1 < (List.length in_ : Int))) = true then (idx t23_1 (List.length in_ : Int) ∧ (idx t23_1 (List.length to_ : Int) ∧ (idx (List.getD to_ (Int.toNat t23_1) 0) (List.length out_1 : Int) ∧ (inI (t23_1 + (1 : Int)) ∧ Λ1 (t23_1 + (1 : Int)) (List.set out_1 (Int.toNat (List.getD to_ (Int.toNat t23_1) 0)) (List.getD in_ (Int.toNat t23_1) 0)))))) else ((0 : Int) = y1 ∧ out_1 = y0)
theorem cMove_law (h : ∀ (in_ : (List Int)) (to_ : (List Int)), cMove.A.wf (in_, to_, ()) → ∀ (Λ1 : Int → (List Int) → Prop), (∀ (t23_1 : Int) (out_1 : (List Int)), cMove_1 Λ1 in_ to_ (if movE in_ to_ = 0 then movS in_ to_ else []) (movE in_ to_) t23_1 out_1 → Λ1 t23_1 out_1) → cMove_0 Λ1 in_ to_ (if movE in_ to_ = 0 then movS in_ to_ else []) (movE in_ to_)) : ConOK Go.Proofs.Try.prog 16 cMove := by
  refine lawL (Γ := [(36, cIsOrd), (37, cValS)]) (Θ := Th) (n := 37) [([1, 1, 1, 1, 0, 1, 0], ⟨[(1, false), (7, true), (21, false), (22, true), (23, true)], [(20, true)]⟩)] ⟨cIsOrd_ok, cValS_ok, trivial⟩ (by kernel_rfl) th_ok mix_ok Go.Proofs.Try.func16 (by kernel_rfl) ?_
  intro x hw hp Λ hC
  have h0 := h x.1 x.2.1 hw (fun t23_1 out_1 => Λ [1, 1, 1, 1, 0, 1, 0] ([(1, .d false (.sl .int) x.2.1), (7, .own 20 0), (21, .d false (.sl .int) x.1), (22, .d true .int (List.length x.1 : Int)), (23, .d true .int t23_1)], [(20, .sl true .int out_1)])) (fun t23_1 out_1 hb => hC [1, 1, 1, 1, 0, 1, 0] ([(1, .d false (.sl .int) x.2.1), (7, .own 20 0), (21, .d false (.sl .int) x.1), (22, .d true .int (List.length x.1 : Int)), (23, .d true .int t23_1)], [(20, .sl true .int out_1)]) (Eq.mpr (by kernel_rfl) hb))
  exact Eq.mpr (by kernel_rfl) h0
theorem cMove_ok : ConOK Go.Proofs.Try.prog 16 cMove := by
  refine cMove_law ?_
  intro in_ to_ hw Λ1 h1
  unfold cMove_0
  refine ⟨trivial, ?_⟩
  cases hv : validS in_
  · have hE : movE in_ to_ = 1 := by unfold movE; rw [hv]; rfl
    rw [if_pos (by rfl), hE]
    exact ⟨rfl, rfl⟩
  · rw [if_neg (by simp [argErr])]
    have h4 := validS_len hv
    refine ⟨trivial, ?_⟩
    cases ho : isOrdB to_
    · have hE : movE in_ to_ = 1 := by unfold movE; rw [hv, ho]; rfl
      rw [if_pos (by rfl), hE]
      exact ⟨rfl, rfl⟩
    · have hE : movE in_ to_ = 0 := by unfold movE; rw [hv, ho]; rfl
      have hpm := perm4 ho
      have hol : to_.length = 4 := by unfold isOrdB at ho; simp only [Bool.and_eq_true, decide_eq_true_eq] at ho; exact ho.1
      rw [if_neg (by simp)]
      refine ⟨⟨by omega, by omega, rfl⟩, ?_⟩
      rw [Int.toNat_natCast]
      refine upto (n := in_.length) (Q := fun k => Λ1 (k : Int) (movK in_ to_ k)) ?_ ?_ 0 (Nat.zero_le _)
      · apply h1; unfold cMove_1
        rw [if_neg (by simp), hE, if_pos rfl]
        exact ⟨rfl, rfl⟩
      · intro k hk ih
        apply h1; unfold cMove_1
        have hr := hpm.reg k (by omega)
        have e : List.getD to_ k 0 = Rg to_ k := by unfold Rg; rw [Int.toNat_natCast]
        have e2 : List.getD in_ k 0 = Rg in_ k := by unfold Rg; rw [Int.toNat_natCast]
        rw [if_pos (by simpa using hk), Int.toNat_natCast, e, e2, movK_len, ← movK_succ]
        exact ⟨⟨by omega, by omega⟩, ⟨by omega, by omega⟩, ⟨hr.1, by omega⟩, by unfold inI; omega, ih⟩
end Go.Tk
