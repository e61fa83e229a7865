import Derived.Test.YtblegpocdjoihaaC6b
set_option linter.unusedSimpArgs false
set_option linter.unusedVariables false
namespace Go.Tk
open Go Go.RowKit

theorem set_set_same {α : Type} (l : List α) (i : Nat) (x y : α) : (l.set i x).set i y = l.set i y := by simp

theorem join_take {a b : List Rng} {i : Nat} (ha : i < a.length) (hb : i < b.length) :
    (((join hull2 a b).take i ++ a.drop i).set i (hull2 (a.getD i tR.dflt) (b.getD i tR.dflt))) = (join hull2 a b).take (i + 1) ++ a.drop (i + 1) := by
  have hl : ((join hull2 a b).take i).length = i := by simp [join]; omega
  unfold join at *
  rw [zip_snoc2 hull2 tR.dflt tR.dflt ha hb, List.append_assoc]
  rw [List.set_append_right _ _ (by omega), hl, Nat.sub_self]
  congr 1
  rw [show a.drop i = a.getD i tR.dflt :: a.drop (i + 1) by
    rw [List.getD_eq_getElem?_getD, List.getElem?_eq_getElem ha, Option.getD_some, List.getElem_cons_drop]]
  rfl

theorem join_take_get {a b : List Rng} {i : Nat} (ha : i < a.length) (hb : i < b.length) : ((join hull2 a b).take i ++ a.drop i).getD i tR.dflt = a.getD i tR.dflt := by
  have hl : ((join hull2 a b).take i).length = i := by simp [join]; omega
  rw [List.getD_eq_getElem?_getD, List.getElem?_append_right (by omega), hl, Nat.sub_self, List.getElem?_drop, Nat.add_zero, ← List.getD_eq_getElem?_getD]

abbrev cHullR : Con := { A := (.cons (.sl (.sl tR)) .nil), R := (.cons (.osl tR) .nil), pre := fun x => x.1 ≠ [] ∧ x.1.length ≤ 1000 ∧ ∀ q' ∈ x.1, validB q' = true, F := fun x => (hullL x.1, ()) }
def cHullR_0 (Λ1 : Int → (List Rng) → Prop) (Λ2 : Int → Int → (List Rng) → Prop) (l : (List (List Rng))) (y0 : (List Rng)) : Prop :=
  idx (0 : Int) (List.length l : Int) ∧ (List.length ([] : List Rng) + List.length (List.getD l (Int.toNat (0 : Int)) ([] : List Rng)) ≤ 4294967296 ∧ Λ1 (1 : Int) (([] : List Rng) ++ (List.getD l (Int.toNat (0 : Int)) ([] : List Rng))))
def cHullR_1 (Λ1 : Int → (List Rng) → Prop) (Λ2 : Int → Int → (List Rng) → Prop) (l : (List (List Rng))) (y0 : (List Rng))  (i_1 : Int) (out_1 : (List Rng)) : Prop :=
  if (decide (i_1 < (List.length l : Int))) = true then Λ2 i_1 (0 : Int) out_1 else out_1 = y0
def cHullR_2 (Λ1 : Int → (List Rng) → Prop) (Λ2 : Int → Int → (List Rng) → Prop) (l : (List (List Rng))) (y0 : (List Rng)) (i_1 : Int) (r_2 : Int) (out_2 : (List Rng)) : Prop :=
  if (decide (r_2 < (List.length out_2 : Int))) = true then (idx r_2 (List.length out_2 : Int) ∧ (idx i_1 (List.length l : Int) ∧ (idx r_2 (List.length (List.getD l (Int.toNat i_1) ([] : List Rng)) : Int) ∧ (idx r_2 (List.length out_2 : Int) ∧ (idx r_2 (List.length (List.set out_2 (Int.toNat r_2) ((min ((List.getD out_2 (Int.toNat r_2) tR.dflt).1) ((List.getD (List.getD l (Int.toNat i_1) ([] : List Rng)) (Int.toNat r_2) tR.dflt).1)), (List.getD out_2 (Int.toNat r_2) tR.dflt).2.1, ())) : Int) ∧ (idx i_1 (List.length l : Int) ∧ (idx r_2 (List.length (List.getD l (Int.toNat i_1) ([] : List Rng)) : Int) ∧ (idx r_2 (List.length (List.set out_2 (Int.toNat r_2) ((min ((List.getD out_2 (Int.toNat r_2) tR.dflt).1) ((List.getD (List.getD l (Int.toNat i_1) ([] : List Rng)) (Int.toNat r_2) tR.dflt).1)), (List.getD out_2 (Int.toNat r_2) tR.dflt).2.1, ())) : Int) ∧ (inI (r_2 + (1 : Int)) ∧ Λ2 i_1 (r_2 + (1 : Int)) (List.set (List.set out_2 (Int.toNat r_2) ((min ((List.getD out_2 (Int.toNat r_2) tR.dflt).1) ((List.getD (List.getD l (Int.toNat i_1) ([] : List Rng)) (Int.toNat r_2) tR.dflt).1)), (List.getD out_2 (Int.toNat r_2) tR.dflt).2.1, ())) (Int.toNat r_2) ((List.getD (List.set out_2 (Int.toNat r_2) ((min ((List.getD out_2 (Int.toNat r_2) tR.dflt).1) ((List.getD (List.getD l (Int.toNat i_1) ([] : List Rng)) (Int.toNat r_2) tR.dflt).1)), (List.getD out_2 (Int.toNat r_2) tR.dflt).2.1, ())) (Int.toNat r_2) tR.dflt).1, (max ((List.getD (List.set out_2 (Int.toNat r_2) ((min ((List.getD out_2 (Int.toNat r_2) tR.dflt).1) ((List.getD (List.getD l (Int.toNat i_1) ([] : List Rng)) (Int.toNat r_2) tR.dflt).1)), (List.getD out_2 (Int.toNat r_2) tR.dflt).2.1, ())) (Int.toNat r_2) tR.dflt).2.1) ((List.getD (List.getD l (Int.toNat i_1) ([] : List Rng)) (Int.toNat r_2) tR.dflt).2.1)), ()))))))))))) else (inI (i_1 + (1 : Int)) ∧ Λ1 (i_1 + (1 : Int)) out_2)
theorem cHullR_law (h : ∀ (l : (List (List Rng))), cHullR.A.wf (l, ()) → (l ≠ [] ∧ l.length ≤ 1000 ∧ ∀ q' ∈ l, validB q' = true) → ∀ (Λ1 : Int → (List Rng) → Prop) (Λ2 : Int → Int → (List Rng) → Prop), (∀ (i_1 : Int) (out_1 : (List Rng)), cHullR_1 Λ1 Λ2 l (hullL l) i_1 out_1 → Λ1 i_1 out_1) → (∀ (i_1 : Int) (r_2 : Int) (out_2 : (List Rng)), cHullR_2 Λ1 Λ2 l (hullL l) i_1 r_2 out_2 → Λ2 i_1 r_2 out_2) → cHullR_0 Λ1 Λ2 l (hullL l)) : ConOK Go.Proofs.Try.prog 70 cHullR := by
  refine lawL (Γ := []) (Θ := Th) (n := 60) [([1, 1, 0, 1, 0], ⟨[(0, false), (3, true), (4, true)], [(6, true)]⟩), ([1, 1, 0, 1, 0, 0, 1, 0, 0, 1, 0], ⟨[(0, false), (3, true), (4, true), (5, true)], [(6, true)]⟩)] trivial (by kernel_rfl) th_ok mix_ok Go.Proofs.Try.func70 (by kernel_rfl) ?_
  intro x hw hp Λ hC
  have h0 := h x.1 hw hp (fun i_1 out_1 => Λ [1, 1, 0, 1, 0] ([(0, .d false (.sl (.sl tR)) x.1), (3, .own 6 0), (4, .d true .int i_1)], [(6, .sl true tR out_1)])) (fun i_1 r_2 out_2 => Λ [1, 1, 0, 1, 0, 0, 1, 0, 0, 1, 0] ([(0, .d false (.sl (.sl tR)) x.1), (3, .own 6 0), (4, .d true .int i_1), (5, .d true .int r_2)], [(6, .sl true tR out_2)])) (fun i_1 out_1 hb => hC [1, 1, 0, 1, 0] ([(0, .d false (.sl (.sl tR)) x.1), (3, .own 6 0), (4, .d true .int i_1)], [(6, .sl true tR out_1)]) (Eq.mpr (by kernel_rfl) hb)) (fun i_1 r_2 out_2 hb => hC [1, 1, 0, 1, 0, 0, 1, 0, 0, 1, 0] ([(0, .d false (.sl (.sl tR)) x.1), (3, .own 6 0), (4, .d true .int i_1), (5, .d true .int r_2)], [(6, .sl true tR out_2)]) (Eq.mpr (by kernel_rfl) hb))
  exact Eq.mpr (by kernel_rfl) h0
theorem cHullR_ok : ConOK Go.Proofs.Try.prog 70 cHullR := by
  refine cHullR_law ?_
  intro l hw hp Λ1 Λ2 h1 h2
  unfold cHullR_0
  obtain ⟨g1, g2, g3⟩ := hp
  have hpos : 0 < l.length := List.length_pos_iff.2 g1
  have gk : ∀ k, k < l.length → validB (List.getD l k []) = true := fun k hk => g3 _ (mem_getD hk)
  refine ⟨⟨by omega, by omega⟩, ?_, ?_⟩
  · have := validB_len (gk 0 hpos)
    rw [show Int.toNat 0 = 0 from rfl, this]; simp
  have acc_ok : ∀ k, 1 ≤ k → k ≤ l.length → validB (hullL (l.take k)) = true := fun k h1 h2 => hullL_ok (by
    intro e; have e := congrArg List.length e; rw [List.length_take, List.length_nil] at e; omega) fun b hb => g3 b (List.mem_of_mem_take hb)
  have key : ∀ k, k ≤ l.length → 1 ≤ k → Λ1 (k : Int) (hullL (l.take k)) := by
    refine upto (n := l.length) (Q := fun k => 1 ≤ k → Λ1 (k : Int) (hullL (l.take k))) ?_ ?_
    · intro _
      apply h1; unfold cHullR_1; rw [if_neg (by simp), List.take_length]
    · intro k hk ih h1k
      have ih := ih (by omega)
      rw [take_snoc [] hk, hullL_snoc, if_neg (by intro e; have e := congrArg List.length e; rw [List.length_take, List.length_nil] at e; omega)] at ih
      have hacc := acc_ok k h1k (by omega)
      have hbk := gk k hk
      apply h1; unfold cHullR_1; rw [if_pos (by simpa using hk)]
      generalize hullL (l.take k) = acc at *
      have la := validB_len hacc
      have lb := validB_len hbk
      have inner : ∀ r : Nat, r ≤ 4 → Λ2 (k : Int) (r : Int) ((join hull2 acc (List.getD l k [])).take r ++ acc.drop r) := by
        refine upto (n := 4) (Q := fun r => Λ2 (k : Int) (r : Int) ((join hull2 acc (List.getD l k [])).take r ++ acc.drop r)) ?_ ?_
        · have e : (join hull2 acc (List.getD l k [])).take 4 ++ acc.drop 4 = join hull2 acc (List.getD l k []) := by
            rw [List.take_of_length_le (by simp [join]; omega), List.drop_of_length_le (by omega), List.append_nil]
          rw [e]
          apply h2; unfold cHullR_2
          rw [if_neg (by simp [join]; omega)]
          exact ⟨inI_succ hk (by omega), ih⟩
        · intro r hr ih2
          rw [← join_take (by omega) (by omega)] at ih2
          have hlen : ((join hull2 acc (List.getD l k [])).take r ++ acc.drop r).length = 4 := by
            rw [List.length_append, List.length_take, List.length_drop]; unfold join; rw [List.length_zipWith]; omega
          have hget := join_take_get (a := acc) (b := List.getD l k []) (i := r) (by omega) (by omega)
          apply h2; unfold cHullR_2
          rw [Int.toNat_natCast, Int.toNat_natCast]
          generalize (join hull2 acc (List.getD l k [])).take r ++ acc.drop r = cur at *
          rw [if_pos (by rw [hlen]; simp; omega)]
          have I1 : idx (r : Int) (cur.length : Int) := ⟨by omega, by omega⟩
          have I2 : ∀ x, idx (r : Int) ((cur.set r x).length : Int) := fun x => ⟨by omega, by rw [List.length_set]; omega⟩
          have I3 : idx (r : Int) ((List.getD l k []).length : Int) := ⟨by omega, by omega⟩
          refine ⟨I1, idx_nat hk, I3, I1, I2 _, idx_nat hk, I3, I2 _, by unfold inI; omega, ?_⟩
          have hs : ∀ x : Rng, (cur.set r x).getD r tR.dflt = x := fun x => by rw [List.getD_eq_getElem?_getD, List.getElem?_set, if_pos rfl, if_pos (by omega)]; rfl
          rw [hs, set_set_same, hget]
          exact ih2
      have := inner 0 (by omega)
      simpa using this
  have := key 1 (by omega) (by omega)
  have e : hullL (l.take 1) = List.getD l 0 [] := by
    cases l with
    | nil => simp at hpos
    | cons a l => rfl
  rw [e] at this
  simpa using this
abbrev cHullRe : Con := { A := (.cons (.sl tR) (.cons (.sl tR) .nil)), R := (.cons (.sl tR) (.cons .int .nil)), pre := fun x => True, F := fun x => ((if twoOK x.1 x.2.1 then join hull2 x.1 x.2.1 else []), argErr (twoOK x.1 x.2.1), ()) }
def cHullRe_0  (a : (List Rng)) (b : (List Rng)) (y0 : (List Rng)) (y1 : Int) : Prop :=
  True ∧ (if ((argErr (twoOK a b)) != (0 : Int)) = true then (([] : List Rng) = y0 ∧ (argErr (twoOK a b)) = y1 ∧ True) else (([a, b] ≠ [] ∧ [a, b].length ≤ 1000 ∧ ∀ q' ∈ [a, b], validB q' = true) ∧ ((hullL [a, b]) = y0 ∧ (0 : Int) = y1 ∧ True)))
theorem cHullRe_law (h : ∀ (a : (List Rng)) (b : (List Rng)), cHullRe.A.wf (a, b, ()) → cHullRe_0  a b (if twoOK a b then join hull2 a b else []) (argErr (twoOK a b))) : ConOK Go.Proofs.Try.prog 35 cHullRe := by
  refine lawL (Γ := [(70, cHullR), (81, cTwoR)]) (Θ := Th) (n := 17) [] ⟨cHullR_ok, cTwoR_ok, trivial⟩ (by kernel_rfl) th_ok mix_ok Go.Proofs.Try.func35 (by kernel_rfl) ?_
  intro x hw hp Λ hC
  have h0 := h x.1 x.2.1 hw  
  exact Eq.mpr (by kernel_rfl) h0
theorem cHullRe_ok : ConOK Go.Proofs.Try.prog 35 cHullRe := by
  refine cHullRe_law ?_
  intro a b hw
  unfold cHullRe_0
  refine ⟨trivial, ?_⟩
  cases h : twoOK a b
  · exact ⟨rfl, rfl, trivial⟩
  · rw [if_neg (by simp [argErr])]
    unfold twoOK at h
    rw [Bool.and_eq_true] at h
    exact ⟨⟨by simp, by simp, by simp [h.1, h.2]⟩, rfl, rfl, trivial⟩
abbrev cInsideR : Con := { A := (.cons (.sl tR) (.cons (.sl .int) .nil)), R := (.cons .bool .nil), pre := fun x => x.1.length ≤ 1000 ∧ x.1.length = x.2.1.length, F := fun x => (hasB x.1 x.2.1, ()) }
def cInsideR_0 (Λ1 : Int → Prop) (b : (List Rng)) (in_ : (List Int)) (y0 : Bool) : Prop :=
  Λ1 (0 : Int)
def cInsideR_1 (Λ1 : Int → Prop) (b : (List Rng)) (in_ : (List Int)) (y0 : Bool)  (i_1 : Int) : Prop :=
  if (decide (i_1 < (List.length b : Int))) = true then (True ∧ (if (bif true then (decide (i_1 < (List.length in_ : Int))) else false) = true then (idx i_1 (List.length in_ : Int) ∧ (idx i_1 (List.length b : Int) ∧ (idx i_1 (List.length b : Int) ∧ (True ∧ (if (!(within (List.getD in_ (Int.toNat i_1) 0) ((List.getD b (Int.toNat i_1) tR.dflt).1) ((List.getD b (Int.toNat i_1) tR.dflt).2.1))) = true then (false = y0 ∧ True) else (inI (i_1 + (1 : Int)) ∧ Λ1 (i_1 + (1 : Int)))))))) else (true = y0 ∧ True))) else (false = false ∧ (true = y0 ∧ True))
theorem cInsideR_law (h : ∀ (b : (List Rng)) (in_ : (List Int)), cInsideR.A.wf (b, in_, ()) → (b.length ≤ 1000 ∧ b.length = in_.length) → ∀ (Λ1 : Int → Prop), (∀ (i_1 : Int), cInsideR_1 Λ1 b in_ (hasB b in_) i_1 → Λ1 i_1) → cInsideR_0 Λ1 b in_ (hasB b in_)) : ConOK Go.Proofs.Try.prog 83 cInsideR := by
  refine lawL (Γ := [(68, cWithinR6)]) (Θ := Th) (n := 34) [([1, 0, 1, 0], ⟨[(0, false), (1, false), (5, true)], []⟩)] ⟨cWithinR6_ok, trivial⟩ (by kernel_rfl) th_ok mix_ok Go.Proofs.Try.func83 (by kernel_rfl) ?_
  intro x hw hp Λ hC
  have h0 := h x.1 x.2.1 hw hp (fun i_1 => Λ [1, 0, 1, 0] ([(0, .d false (.sl tR) x.1), (1, .d false (.sl .int) x.2.1), (5, .d true .int i_1)], [])) (fun i_1 hb => hC [1, 0, 1, 0] ([(0, .d false (.sl tR) x.1), (1, .d false (.sl .int) x.2.1), (5, .d true .int i_1)], []) (Eq.mpr (by kernel_rfl) hb))
  exact Eq.mpr (by kernel_rfl) h0
theorem cInsideR_ok : ConOK Go.Proofs.Try.prog 83 cInsideR := by
  refine cInsideR_law ?_
  intro b in_ hw hp Λ1 h1
  unfold cInsideR_0
  refine upto (n := b.length) (Q := fun i => ((List.zipWith (fun (r : Rng) n => within n r.1 r.2.1) b in_).take i).all id = true → Λ1 i) ?_ ?_ 0 (Nat.zero_le _) rfl
  · intro ha
    rw [List.take_of_length_le (by simp only [List.length_zipWith]; omega)] at ha
    apply h1; unfold cInsideR_1; rw [if_neg (by simp)]
    exact ⟨rfl, ha.symm, trivial⟩
  · intro i hi ih ha
    apply h1; unfold cInsideR_1; rw [if_pos (by simpa using hi), Int.toNat_natCast]
    have hi2 : i < in_.length := by omega
    refine ⟨trivial, ?_⟩
    rw [if_pos (by show decide _ = true; simpa using hi2)]
    refine ⟨idx_nat hi2, idx_nat hi, idx_nat hi, trivial, ?_⟩
    cases hv : within (List.getD in_ i 0) (List.getD b i tR.dflt).1 (List.getD b i tR.dflt).2.1
    · rw [if_pos (by rfl)]
      exact ⟨(zipAll_false (fun (r : Rng) n => within n r.1 r.2.1) tR.dflt 0 hi (by omega) hv).symm, trivial⟩
    · rw [if_neg (by simp)]
      exact ⟨inI_succ hi (by omega), ih (zipAll_next (fun (r : Rng) n => within n r.1 r.2.1) tR.dflt 0 hi (by omega) ha hv)⟩
abbrev cHasR : Con := { A := (.cons (.sl tR) (.cons (.sl .int) .nil)), R := (.cons .bool (.cons .int .nil)), pre := fun x => True, F := fun x => (hasOK x.1 x.2.1 && hasB x.1 x.2.1, argErr (hasOK x.1 x.2.1), ()) }
def cHasR_0  (b : (List Rng)) (in_ : (List Int)) (y0 : Bool) (y1 : Int) : Prop :=
  True ∧ (if ((argErr (validB b)) != (0 : Int)) = true then (false = y0 ∧ (argErr (validB b)) = y1 ∧ True) else (True ∧ (if ((argErr (validS in_)) != (0 : Int)) = true then (false = y0 ∧ (argErr (validS in_)) = y1 ∧ True) else ((b.length ≤ 1000 ∧ b.length = in_.length) ∧ ((hasB b in_) = y0 ∧ (0 : Int) = y1 ∧ True)))))
theorem cHasR_law (h : ∀ (b : (List Rng)) (in_ : (List Int)), cHasR.A.wf (b, in_, ()) → cHasR_0  b in_ (hasOK b in_ && hasB b in_) (argErr (hasOK b in_))) : ConOK Go.Proofs.Try.prog 37 cHasR := by
  refine lawL (Γ := [(83, cInsideR), (41, cValBR), (82, cValSR)]) (Θ := Th) (n := 21) [] ⟨cInsideR_ok, cValBR_ok, cValSR_ok, trivial⟩ (by kernel_rfl) th_ok mix_ok Go.Proofs.Try.func37 (by kernel_rfl) ?_
  intro x hw hp Λ hC
  have h0 := h x.1 x.2.1 hw  
  exact Eq.mpr (by kernel_rfl) h0
theorem cHasR_ok : ConOK Go.Proofs.Try.prog 37 cHasR := by
  refine cHasR_law ?_
  intro b in_ hw
  unfold cHasR_0
  refine ⟨trivial, ?_⟩
  unfold hasOK
  cases hv : validB b
  · exact ⟨rfl, rfl, trivial⟩
  rw [if_neg (by simp [argErr])]
  refine ⟨trivial, ?_⟩
  cases hs : validS in_
  · exact ⟨rfl, rfl, trivial⟩
  rw [if_neg (by simp [argErr])]
  have := validB_len hv
  have := validS_len hs
  exact ⟨⟨by omega, by omega⟩, rfl, rfl, trivial⟩
abbrev cWithinRB : Con := { A := (.cons (.sl tR) (.cons (.sl tR) .nil)), R := (.cons .bool (.cons .int .nil)), pre := fun x => True, F := fun x => (twoOK x.1 x.2.1 && decide (join hull2 x.1 x.2.1 = x.2.1), argErr (twoOK x.1 x.2.1), ()) }
def cWithinRB_0 (Λ1 : Int → Prop) (a : (List Rng)) (b : (List Rng)) (y0 : Bool) (y1 : Int) : Prop :=
  True ∧ (if ((argErr (twoOK a b)) != (0 : Int)) = true then (false = y0 ∧ (argErr (twoOK a b)) = y1 ∧ True) else Λ1 (0 : Int))
def cWithinRB_1 (Λ1 : Int → Prop) (a : (List Rng)) (b : (List Rng)) (y0 : Bool) (y1 : Int)  (i_1 : Int) : Prop :=
  if (decide (i_1 < (List.length a : Int))) = true then (idx i_1 (List.length a : Int) ∧ (idx i_1 (List.length b : Int) ∧ (if (decide ((List.getD a (Int.toNat i_1) tR.dflt).1 < (List.getD b (Int.toNat i_1) tR.dflt).1)) = true then (true = true ∧ (false = y0 ∧ (0 : Int) = y1 ∧ True)) else (idx i_1 (List.length a : Int) ∧ (idx i_1 (List.length b : Int) ∧ (True ∧ (if (bif false then true else (decide ((List.getD a (Int.toNat i_1) tR.dflt).2.1 > (List.getD b (Int.toNat i_1) tR.dflt).2.1))) = true then (false = y0 ∧ (0 : Int) = y1 ∧ True) else (inI (i_1 + (1 : Int)) ∧ Λ1 (i_1 + (1 : Int)))))))))) else (true = y0 ∧ (0 : Int) = y1 ∧ True)
theorem cWithinRB_law (h : ∀ (a : (List Rng)) (b : (List Rng)), cWithinRB.A.wf (a, b, ()) → ∀ (Λ1 : Int → Prop), (∀ (i_1 : Int), cWithinRB_1 Λ1 a b (twoOK a b && decide (join hull2 a b = b)) (argErr (twoOK a b)) i_1 → Λ1 i_1) → cWithinRB_0 Λ1 a b (twoOK a b && decide (join hull2 a b = b)) (argErr (twoOK a b))) : ConOK Go.Proofs.Try.prog 36 cWithinRB := by
  refine lawL (Γ := [(81, cTwoR)]) (Θ := Th) (n := 44) [([1, 1, 0, 1, 0], ⟨[(0, false), (1, false), (7, true)], []⟩)] ⟨cTwoR_ok, trivial⟩ (by kernel_rfl) th_ok mix_ok Go.Proofs.Try.func36 (by kernel_rfl) ?_
  intro x hw hp Λ hC
  have h0 := h x.1 x.2.1 hw (fun i_1 => Λ [1, 1, 0, 1, 0] ([(0, .d false (.sl tR) x.1), (1, .d false (.sl tR) x.2.1), (7, .d true .int i_1)], [])) (fun i_1 hb => hC [1, 1, 0, 1, 0] ([(0, .d false (.sl tR) x.1), (1, .d false (.sl tR) x.2.1), (7, .d true .int i_1)], []) (Eq.mpr (by kernel_rfl) hb))
  exact Eq.mpr (by kernel_rfl) h0
theorem cWithinRB_ok : ConOK Go.Proofs.Try.prog 36 cWithinRB := by
  refine cWithinRB_law ?_
  intro a b hw Λ1 h1
  unfold cWithinRB_0
  refine ⟨trivial, ?_⟩
  cases h : twoOK a b
  · exact ⟨rfl, rfl, trivial⟩
  rw [if_neg (by simp [argErr])]
  unfold twoOK at h
  rw [Bool.and_eq_true] at h
  have la := validB_len h.1
  have lb := validB_len h.2
  have bad : ∀ i, i < a.length → ¬ ((b.getD i tR.dflt).1 ≤ (a.getD i tR.dflt).1 ∧ (a.getD i tR.dflt).2.1 ≤ (b.getD i tR.dflt).2.1) → false = (true && decide (join hull2 a b = b)) := by
    intro i hi hn
    have : join hull2 a b ≠ b := fun e => hn ((join_eq_iff (by omega)).1 e i hi)
    simp [this]
  refine upto (n := a.length) (Q := fun i => (∀ j, j < i → (b.getD j tR.dflt).1 ≤ (a.getD j tR.dflt).1 ∧ (a.getD j tR.dflt).2.1 ≤ (b.getD j tR.dflt).2.1) → Λ1 i) ?_ ?_ 0 (Nat.zero_le _) (fun j hj => by omega)
  · intro ha
    apply h1; unfold cWithinRB_1; rw [if_neg (by simp)]
    have := (join_eq_iff (a := a) (b := b) (by omega)).2 ha
    unfold twoOK
    rw [h.1, h.2]
    exact ⟨by simp [this], rfl, trivial⟩
  · intro i hi ih ha
    apply h1; unfold cWithinRB_1; rw [if_pos (by simpa using hi), Int.toNat_natCast]
    unfold twoOK
    rw [h.1, h.2]
    refine ⟨idx_nat hi, idx_nat (by omega), ?_⟩
    by_cases c1 : (a.getD i tR.dflt).1 < (b.getD i tR.dflt).1
    · rw [if_pos (by simpa using c1)]
      exact ⟨rfl, bad i hi (by omega), rfl, trivial⟩
    rw [if_neg (by simpa using c1)]
    refine ⟨idx_nat hi, idx_nat (by omega), trivial, ?_⟩
    by_cases c2 : (a.getD i tR.dflt).2.1 > (b.getD i tR.dflt).2.1
    · rw [if_pos (by show decide _ = true; exact decide_eq_true c2)]
      exact ⟨bad i hi (by omega), rfl, trivial⟩
    rw [if_neg (by show ¬ decide _ = true; simpa using c2)]
    refine ⟨inI_succ hi (by omega), ih fun j hj => ?_⟩
    rcases Nat.lt_or_ge j i with g | g
    · exact ha j g
    · obtain rfl : j = i := by omega
      omega
theorem isRange_meet {r s : Rng} (h1 : isRange r = true) (h2 : isRange s = true) : isRange (meet2 r s) = decide (max r.1 s.1 ≤ min r.2.1 s.2.1) := by
  rw [Bool.eq_iff_iff, isRange_iff, decide_eq_true_eq]
  rw [isRange_iff] at *
  unfold meet2
  dsimp only
  omega

abbrev cMeetR : Con := { A := (.cons (.sl tR) (.cons (.sl tR) .nil)), R := (.cons (.sl tR) (.cons .bool (.cons .int .nil))), pre := fun x => True, F := fun x => (meetB x.1 x.2.1, twoOK x.1 x.2.1 && validB (join meet2 x.1 x.2.1), argErr (twoOK x.1 x.2.1), ()) }
def cMeetR_0 (Λ1 : Int → (List Rng) → Prop) (a : (List Rng)) (b : (List Rng)) (y0 : (List Rng)) (y1 : Bool) (y2 : Int) : Prop :=
  True ∧ (if ((argErr (twoOK a b)) != (0 : Int)) = true then (([] : List Rng) = y0 ∧ false = y1 ∧ (argErr (twoOK a b)) = y2 ∧ True) else Λ1 (0 : Int) ([] : List Rng))
def cMeetR_1 (Λ1 : Int → (List Rng) → Prop) (a : (List Rng)) (b : (List Rng)) (y0 : (List Rng)) (y1 : Bool) (y2 : Int)  (i_1 : Int) (out_1 : (List Rng)) : Prop :=
  if (decide (i_1 < (List.length a : Int))) = true then (idx i_1 (List.length a : Int) ∧ (idx i_1 (List.length b : Int) ∧ (idx i_1 (List.length a : Int) ∧ (idx i_1 (List.length b : Int) ∧ (if (decide ((max ((List.getD a (Int.toNat i_1) tR.dflt).1) ((List.getD b (Int.toNat i_1) tR.dflt).1)) > (min ((List.getD a (Int.toNat i_1) tR.dflt).2.1) ((List.getD b (Int.toNat i_1) tR.dflt).2.1)))) = true then (([] : List Rng) = y0 ∧ false = y1 ∧ (0 : Int) = y2 ∧ True) else (List.length out_1 + List.length [((max ((List.getD a (Int.toNat i_1) tR.dflt).1) ((List.getD b (Int.toNat i_1) tR.dflt).1)), (min ((List.getD a (Int.toNat i_1) tR.dflt).2.1) ((List.getD b (Int.toNat i_1) tR.dflt).2.1)), ())] ≤ 4294967296 ∧ (inI (i_1 + (1 : Int)) ∧ Λ1 (i_1 + (1 : Int)) (out_1 ++ [((max ((List.getD a (Int.toNat i_1) tR.dflt).1) ((List.getD b (Int.toNat i_1) tR.dflt).1)), (min ((List.getD a (Int.toNat i_1) tR.dflt).2.1) ((List.getD b (Int.toNat i_1) tR.dflt).2.1)), ())])))))))) else (out_1 = y0 ∧ true = y1 ∧ (0 : Int) = y2 ∧ True)
theorem cMeetR_law (h : ∀ (a : (List Rng)) (b : (List Rng)), cMeetR.A.wf (a, b, ()) → ∀ (Λ1 : Int → (List Rng) → Prop), (∀ (i_1 : Int) (out_1 : (List Rng)), cMeetR_1 Λ1 a b (meetB a b) (twoOK a b && validB (join meet2 a b)) (argErr (twoOK a b)) i_1 out_1 → Λ1 i_1 out_1) → cMeetR_0 Λ1 a b (meetB a b) (twoOK a b && validB (join meet2 a b)) (argErr (twoOK a b))) : ConOK Go.Proofs.Try.prog 43 cMeetR := by
  refine lawL (Γ := [(81, cTwoR)]) (Θ := Th) (n := 56) [([1, 1, 1, 0, 1, 0], ⟨[(0, false), (1, false), (8, true), (9, true)], [(8, true)]⟩)] ⟨cTwoR_ok, trivial⟩ (by kernel_rfl) th_ok mix_ok Go.Proofs.Try.func43 (by kernel_rfl) ?_
  intro x hw hp Λ hC
  have h0 := h x.1 x.2.1 hw (fun i_1 out_1 => Λ [1, 1, 1, 0, 1, 0] ([(0, .d false (.sl tR) x.1), (1, .d false (.sl tR) x.2.1), (8, .own 8 0), (9, .d true .int i_1)], [(8, .sl true tR out_1)])) (fun i_1 out_1 hb => hC [1, 1, 1, 0, 1, 0] ([(0, .d false (.sl tR) x.1), (1, .d false (.sl tR) x.2.1), (8, .own 8 0), (9, .d true .int i_1)], [(8, .sl true tR out_1)]) (Eq.mpr (by kernel_rfl) hb))
  exact Eq.mpr (by kernel_rfl) h0
theorem cMeetR_ok : ConOK Go.Proofs.Try.prog 43 cMeetR := by
  refine cMeetR_law ?_
  intro a b hw Λ1 h1
  unfold cMeetR_0
  refine ⟨trivial, ?_⟩
  unfold meetB
  cases h : twoOK a b
  · exact ⟨rfl, rfl, rfl, trivial⟩
  rw [if_neg (by simp [argErr])]
  unfold twoOK at h
  rw [Bool.and_eq_true] at h
  have la := validB_len h.1
  have lb := validB_len h.2
  have hl : (join meet2 a b).length = 4 := by simp [join]; omega
  have hin : ∀ i, i < 4 → isRange ((join meet2 a b).getD i tR.dflt) = decide (max (a.getD i tR.dflt).1 (b.getD i tR.dflt).1 ≤ min (a.getD i tR.dflt).2.1 (b.getD i tR.dflt).2.1) := by
    intro i hi
    have e : (join meet2 a b).getD i tR.dflt = meet2 (a.getD i tR.dflt) (b.getD i tR.dflt) := by
      have h1 : i < a.length := by omega
      have h2 : i < b.length := by omega
      simp [join, List.getD_eq_getElem?_getD, List.getElem?_zipWith, h1, h2]
    rw [e]
    exact isRange_meet ((validB_iff.1 h.1).2 _ (mem_getD (by omega))) ((validB_iff.1 h.2).2 _ (mem_getD (by omega)))
  refine upto (n := a.length) (Q := fun i => ((join meet2 a b).take i).all isRange = true → Λ1 i ((join meet2 a b).take i)) ?_ ?_ 0 (Nat.zero_le _) rfl
  · intro ha
    rw [List.take_of_length_le (by omega)] at *
    have hv : validB (join meet2 a b) = true := by unfold validB; rw [ha, hl]; rfl
    apply h1; unfold cMeetR_1; rw [if_neg (by simp)]
    unfold meetB twoOK
    rw [h.1, h.2, hv]
    exact ⟨rfl, rfl, rfl, trivial⟩
  · intro i hi ih ha
    apply h1; unfold cMeetR_1; rw [if_pos (by simpa using hi), Int.toNat_natCast]
    refine ⟨idx_nat hi, idx_nat (by omega), idx_nat hi, idx_nat (by omega), ?_⟩
    by_cases c : max (a.getD i tR.dflt).1 (b.getD i tR.dflt).1 > min (a.getD i tR.dflt).2.1 (b.getD i tR.dflt).2.1
    · rw [if_pos (by simpa using c)]
      have hv : validB (join meet2 a b) = false := by
        unfold validB
        rw [all_false_at (p := isRange) tR.dflt (i := i) (by omega) (by rw [hin i (by omega)]; exact decide_eq_false (by omega)), Bool.and_false]
      unfold meetB twoOK
      rw [h.1, h.2, hv]
      exact ⟨rfl, rfl, rfl, trivial⟩
    · rw [if_neg (by simpa using c)]
      have ih := ih (all_take_next tR.dflt (by omega) ha (by rw [hin i (by omega)]; exact decide_eq_true (by omega)))
      unfold join at ih ⊢
      rw [zip_snoc2 meet2 tR.dflt tR.dflt hi (by omega)] at ih
      refine ⟨?_, inI_succ hi (by omega), ih⟩
      simp only [List.length_take, List.length_zipWith, List.length_cons, List.length_nil]; omega
abbrev cPointR0 : Con := { A := (.cons (.sl .int) .nil), R := (.cons (.osl tR) .nil), pre := fun x => x.1.length ≤ 1000, F := fun x => (boxOf x.1 x.1, ()) }
def cPointR0_0 (Λ1 : Int → (List Rng) → Prop) (in_ : (List Int)) (y0 : (List Rng)) : Prop :=
  Λ1 (0 : Int) ([] : List Rng)
def cPointR0_1 (Λ1 : Int → (List Rng) → Prop) (in_ : (List Int)) (y0 : (List Rng))  (i_1 : Int) (out_1 : (List Rng)) : Prop :=
  if (decide (i_1 < (List.length in_ : Int))) = true then (idx i_1 (List.length in_ : Int) ∧ (idx i_1 (List.length in_ : Int) ∧ (List.length out_1 + List.length [((List.getD in_ (Int.toNat i_1) 0), (List.getD in_ (Int.toNat i_1) 0), ())] ≤ 4294967296 ∧ (inI (i_1 + (1 : Int)) ∧ Λ1 (i_1 + (1 : Int)) (out_1 ++ [((List.getD in_ (Int.toNat i_1) 0), (List.getD in_ (Int.toNat i_1) 0), ())]))))) else out_1 = y0
theorem cPointR0_law (h : ∀ (in_ : (List Int)), cPointR0.A.wf (in_, ()) → (in_.length ≤ 1000) → ∀ (Λ1 : Int → (List Rng) → Prop), (∀ (i_1 : Int) (out_1 : (List Rng)), cPointR0_1 Λ1 in_ (boxOf in_ in_) i_1 out_1 → Λ1 i_1 out_1) → cPointR0_0 Λ1 in_ (boxOf in_ in_)) : ConOK Go.Proofs.Try.prog 94 cPointR0 := by
  refine lawL (Γ := []) (Θ := Th) (n := 24) [([1, 1, 0, 1, 0], ⟨[(0, false), (3, true), (4, true)], [(3, true)]⟩)] trivial (by kernel_rfl) th_ok mix_ok Go.Proofs.Try.func94 (by kernel_rfl) ?_
  intro x hw hp Λ hC
  have h0 := h x.1 hw hp (fun i_1 out_1 => Λ [1, 1, 0, 1, 0] ([(0, .d false (.sl .int) x.1), (3, .own 3 0), (4, .d true .int i_1)], [(3, .sl true tR out_1)])) (fun i_1 out_1 hb => hC [1, 1, 0, 1, 0] ([(0, .d false (.sl .int) x.1), (3, .own 3 0), (4, .d true .int i_1)], [(3, .sl true tR out_1)]) (Eq.mpr (by kernel_rfl) hb))
  exact Eq.mpr (by kernel_rfl) h0
theorem cPointR0_ok : ConOK Go.Proofs.Try.prog 94 cPointR0 := by
  refine cPointR0_law ?_
  intro in_ hw hp Λ1 h1
  unfold cPointR0_0
  refine upto (n := in_.length) (Q := fun i => Λ1 i ((boxOf in_ in_).take i)) ?_ ?_ 0 (Nat.zero_le _)
  · apply h1; unfold cPointR0_1; rw [if_neg (by simp)]
    rw [List.take_of_length_le (by unfold boxOf; simp only [List.length_zipWith]; omega)]
  · intro i hi ih
    apply h1; unfold cPointR0_1; rw [if_pos (by simpa using hi), Int.toNat_natCast]
    refine ⟨idx_nat hi, idx_nat (by omega), ?_, inI_succ hi (by omega), ?_⟩
    · simp only [boxOf, List.length_take, List.length_zipWith, List.length_cons, List.length_nil]; omega
    · unfold boxOf at ih
      rw [zip_snoc2 _ 0 0 hi (by omega)] at ih
      exact ih
abbrev cPointR : Con := { A := (.cons (.sl .int) .nil), R := (.cons (.sl tR) (.cons .int .nil)), pre := fun x => True, F := fun x => ((if validS x.1 then boxOf x.1 x.1 else []), argErr (validS x.1), ()) }
def cPointR_0  (in_ : (List Int)) (y0 : (List Rng)) (y1 : Int) : Prop :=
  True ∧ (if ((argErr (validS in_)) != (0 : Int)) = true then (([] : List Rng) = y0 ∧ (argErr (validS in_)) = y1 ∧ True) else (in_.length ≤ 1000 ∧ ((boxOf in_ in_) = y0 ∧ (0 : Int) = y1 ∧ True)))
theorem cPointR_law (h : ∀ (in_ : (List Int)), cPointR.A.wf (in_, ()) → cPointR_0  in_ (if validS in_ then boxOf in_ in_ else []) (argErr (validS in_))) : ConOK Go.Proofs.Try.prog 49 cPointR := by
  refine lawL (Γ := [(94, cPointR0), (82, cValSR)]) (Θ := Th) (n := 12) [] ⟨cPointR0_ok, cValSR_ok, trivial⟩ (by kernel_rfl) th_ok mix_ok Go.Proofs.Try.func49 (by kernel_rfl) ?_
  intro x hw hp Λ hC
  have h0 := h x.1 hw  
  exact Eq.mpr (by kernel_rfl) h0
theorem cPointR_ok : ConOK Go.Proofs.Try.prog 49 cPointR := by
  refine cPointR_law ?_
  intro in_ hw
  unfold cPointR_0
  refine ⟨trivial, ?_⟩
  cases h : validS in_
  · exact ⟨rfl, rfl, trivial⟩
  · have := validS_len h
    exact ⟨by omega, rfl, rfl, trivial⟩
abbrev cSizeR : Con := { A := (.cons (.sl tR) .nil), R := (.cons .int (.cons .int .nil)), pre := fun x => True, F := fun x => ((if validB x.1 then sizeB x.1 else 0), argErr (validB x.1), ()) }
def cSizeR_0 (Λ1 : Int → Int → Prop) (b : (List Rng)) (y0 : Int) (y1 : Int) : Prop :=
  True ∧ (if ((argErr (validB b)) != (0 : Int)) = true then ((0 : Int) = y0 ∧ (argErr (validB b)) = y1 ∧ True) else Λ1 (0 : Int) (0 : Int))
def cSizeR_1 (Λ1 : Int → Int → Prop) (b : (List Rng)) (y0 : Int) (y1 : Int)  (n_1 : Int) (i_1 : Int) : Prop :=
  if (decide (i_1 < (List.length b : Int))) = true then (idx i_1 (List.length b : Int) ∧ (idx i_1 (List.length b : Int) ∧ (inI ((List.getD b (Int.toNat i_1) tR.dflt).2.1 - (List.getD b (Int.toNat i_1) tR.dflt).1) ∧ (inI (n_1 + ((List.getD b (Int.toNat i_1) tR.dflt).2.1 - (List.getD b (Int.toNat i_1) tR.dflt).1)) ∧ (inI (i_1 + (1 : Int)) ∧ Λ1 (n_1 + ((List.getD b (Int.toNat i_1) tR.dflt).2.1 - (List.getD b (Int.toNat i_1) tR.dflt).1)) (i_1 + (1 : Int))))))) else (n_1 = y0 ∧ (0 : Int) = y1 ∧ True)
theorem cSizeR_law (h : ∀ (b : (List Rng)), cSizeR.A.wf (b, ()) → ∀ (Λ1 : Int → Int → Prop), (∀ (n_1 : Int) (i_1 : Int), cSizeR_1 Λ1 b (if validB b then sizeB b else 0) (argErr (validB b)) n_1 i_1 → Λ1 n_1 i_1) → cSizeR_0 Λ1 b (if validB b then sizeB b else 0) (argErr (validB b))) : ConOK Go.Proofs.Try.prog 39 cSizeR := by
  refine lawL (Γ := [(41, cValBR)]) (Θ := Th) (n := 32) [([1, 1, 1, 0, 1, 0], ⟨[(0, false), (5, true), (6, true)], []⟩)] ⟨cValBR_ok, trivial⟩ (by kernel_rfl) th_ok mix_ok Go.Proofs.Try.func39 (by kernel_rfl) ?_
  intro x hw hp Λ hC
  have h0 := h x.1 hw (fun n_1 i_1 => Λ [1, 1, 1, 0, 1, 0] ([(0, .d false (.sl tR) x.1), (5, .d true .int n_1), (6, .d true .int i_1)], [])) (fun n_1 i_1 hb => hC [1, 1, 1, 0, 1, 0] ([(0, .d false (.sl tR) x.1), (5, .d true .int n_1), (6, .d true .int i_1)], []) (Eq.mpr (by kernel_rfl) hb))
  exact Eq.mpr (by kernel_rfl) h0
theorem cSizeR_ok : ConOK Go.Proofs.Try.prog 39 cSizeR := by
  refine cSizeR_law ?_
  intro b hw Λ1 h1
  unfold cSizeR_0
  refine ⟨trivial, ?_⟩
  cases h : validB b
  · exact ⟨rfl, rfl, trivial⟩
  rw [if_neg (by simp [argErr])]
  have hl := validB_len h
  refine upto (n := b.length) (Q := fun i => Λ1 ((b.map fun r => r.2.1 - r.1).take i).sum i) ?_ ?_ 0 (Nat.zero_le _)
  · apply h1; unfold cSizeR_1; rw [if_neg (by simp), h]
    refine ⟨?_, rfl, trivial⟩
    rw [List.take_of_length_le (by simp)]; rfl
  · intro i hi ih
    rw [sizeB_take b hi] at ih
    have g := validB_get h (i := (i : Int)) (by omega) (by omega)
    unfold Rd at g
    rw [Int.toNat_natCast] at g
    have := sizeB_bd h i (by omega)
    apply h1; unfold cSizeR_1; rw [if_pos (by simpa using hi), Int.toNat_natCast]
    exact ⟨idx_nat hi, idx_nat hi, by unfold inI; omega, by unfold inI; omega, inI_succ hi (by omega), ih⟩
abbrev cHalf : Con := { A := (.cons .int .nil), R := (.cons .int .nil), pre := fun x => -10000 ≤ x.1 ∧ x.1 ≤ 10000, F := fun x => (x.1 / 2, ()) }
def cHalf_0  (n : Int) (y0 : Int) : Prop :=
  if (decide (n < (0 : Int))) = true then (inI (n - (1 : Int)) ∧ (((2 : Int) ≠ 0 ∧ inI (Int.tdiv (n - (1 : Int)) (2 : Int))) ∧ ((Int.tdiv (n - (1 : Int)) (2 : Int)) = y0 ∧ True))) else (((2 : Int) ≠ 0 ∧ inI (Int.tdiv n (2 : Int))) ∧ ((Int.tdiv n (2 : Int)) = y0 ∧ True))
theorem cHalf_law (h : ∀ (n : Int), cHalf.A.wf (n, ()) → (-10000 ≤ n ∧ n ≤ 10000) → cHalf_0  n (n / 2)) : ConOK Go.Proofs.Try.prog 78 cHalf := by
  refine lawL (Γ := []) (Θ := Th) (n := 10) [] trivial (by kernel_rfl) th_ok mix_ok Go.Proofs.Try.func78 (by kernel_rfl) ?_
  intro x hw hp Λ hC
  have h0 := h x.1 hw hp  
  exact Eq.mpr (by kernel_rfl) h0
theorem cHalf_ok : ConOK Go.Proofs.Try.prog 78 cHalf := by
  refine cHalf_law ?_
  intro n hw hp
  unfold cHalf_0
  by_cases h : n < 0
  · rw [if_pos (by simpa using h)]
    have e : Int.tdiv (n - 1) 2 = n / 2 := by
      rw [show n - 1 = -(1 - n) by omega, Int.neg_tdiv, Int.tdiv_eq_ediv_of_nonneg (by omega)]; omega
    exact ⟨by unfold inI; omega, ⟨by decide, by rw [e]; unfold inI; omega⟩, e, trivial⟩
  · rw [if_neg (by simpa using h)]
    have e : Int.tdiv n 2 = n / 2 := Int.tdiv_eq_ediv_of_nonneg (by omega)
    exact ⟨⟨by decide, by rw [e]; unfold inI; omega⟩, e, trivial⟩
abbrev cHalvesR : Con := { A := (.cons (.sl tR) (.cons .int .nil)), R := (.cons (.sl tR) (.cons (.sl tR) (.cons .int .nil))), pre := fun x => True, F := fun x => (halfLow x.1 x.2.1, halfHigh x.1 x.2.1, halfErr x.1 x.2.1, ()) }
def cHalvesR_0  (b : (List Rng)) (register : Int) (y0 : (List Rng)) (y1 : (List Rng)) (y2 : Int) : Prop :=
  True ∧ (if ((argErr (validB b)) != (0 : Int)) = true then (([] : List Rng) = y0 ∧ ([] : List Rng) = y1 ∧ (argErr (validB b)) = y2 ∧ True) else (True ∧ (if (!(within register (0 : Int) (3 : Int))) = true then (([] : List Rng) = y0 ∧ ([] : List Rng) = y1 ∧ (1 : Int) = y2 ∧ True) else (idx register (List.length b : Int) ∧ (if ((List.getD b (Int.toNat register) tR.dflt).1 == (List.getD b (Int.toNat register) tR.dflt).2.1) = true then (([] : List Rng) = y0 ∧ ([] : List Rng) = y1 ∧ (6 : Int) = y2 ∧ True) else (List.length ([] : List Rng) + List.length b ≤ 4294967296 ∧ (List.length ([] : List Rng) + List.length b ≤ 4294967296 ∧ (inI ((List.getD b (Int.toNat register) tR.dflt).1 + (List.getD b (Int.toNat register) tR.dflt).2.1) ∧ ((-10000 ≤ ((List.getD b (Int.toNat register) tR.dflt).1 + (List.getD b (Int.toNat register) tR.dflt).2.1) ∧ ((List.getD b (Int.toNat register) tR.dflt).1 + (List.getD b (Int.toNat register) tR.dflt).2.1) ≤ 10000) ∧ (idx register (List.length (([] : List Rng) ++ b) : Int) ∧ (inI ((List.getD b (Int.toNat register) tR.dflt).1 + (List.getD b (Int.toNat register) tR.dflt).2.1) ∧ ((-10000 ≤ ((List.getD b (Int.toNat register) tR.dflt).1 + (List.getD b (Int.toNat register) tR.dflt).2.1) ∧ ((List.getD b (Int.toNat register) tR.dflt).1 + (List.getD b (Int.toNat register) tR.dflt).2.1) ≤ 10000) ∧ (inI ((((List.getD b (Int.toNat register) tR.dflt).1 + (List.getD b (Int.toNat register) tR.dflt).2.1) / 2) + (1 : Int)) ∧ (idx register (List.length (([] : List Rng) ++ b) : Int) ∧ ((List.set (([] : List Rng) ++ b) (Int.toNat register) ((List.getD (([] : List Rng) ++ b) (Int.toNat register) tR.dflt).1, (((List.getD b (Int.toNat register) tR.dflt).1 + (List.getD b (Int.toNat register) tR.dflt).2.1) / 2), ())) = y0 ∧ (List.set (([] : List Rng) ++ b) (Int.toNat register) (((((List.getD b (Int.toNat register) tR.dflt).1 + (List.getD b (Int.toNat register) tR.dflt).2.1) / 2) + (1 : Int)), (List.getD (([] : List Rng) ++ b) (Int.toNat register) tR.dflt).2.1, ())) = y1 ∧ (0 : Int) = y2 ∧ True)))))))))))))))
theorem cHalvesR_law (h : ∀ (b : (List Rng)) (register : Int), cHalvesR.A.wf (b, register, ()) → cHalvesR_0  b register (halfLow b register) (halfHigh b register) (halfErr b register)) : ConOK Go.Proofs.Try.prog 32 cHalvesR := by
  refine lawL (Γ := [(78, cHalf), (41, cValBR), (68, cWithinR6)]) (Θ := Th) (n := 57) [] ⟨cHalf_ok, cValBR_ok, cWithinR6_ok, trivial⟩ (by kernel_rfl) th_ok mix_ok Go.Proofs.Try.func32 (by kernel_rfl) ?_
  intro x hw hp Λ hC
  have h0 := h x.1 x.2.1 hw  
  exact Eq.mpr (by kernel_rfl) h0
theorem cHalvesR_ok : ConOK Go.Proofs.Try.prog 32 cHalvesR := by
  refine cHalvesR_law ?_
  intro b register hw
  unfold cHalvesR_0
  refine ⟨trivial, ?_⟩
  cases hv : validB b
  · rw [if_pos (by rfl)]
    have e : halfErr b register = 1 := by unfold halfErr; rw [if_neg (by simp [hv])]
    unfold halfLow halfHigh
    rw [e, if_neg (by decide), if_neg (by decide)]
    exact ⟨rfl, rfl, rfl, trivial⟩
  rw [if_neg (by simp [argErr])]
  refine ⟨trivial, ?_⟩
  by_cases hr : 0 ≤ register ∧ register ≤ 3
  · rw [if_neg (by rw [within_iff.2 hr]; simp)]
    have hb := validB_len hv
    have hg := validB_get hv hr.1 hr.2
    have hI : idx register (b.length : Int) := ⟨hr.1, by omega⟩
    refine ⟨hI, ?_⟩
    unfold Rd at hg
    by_cases he : (List.getD b register.toNat tR.dflt).1 = (List.getD b register.toNat tR.dflt).2.1
    · have e : halfErr b register = 6 := by unfold halfErr Rd; rw [if_pos ⟨hv, hr⟩, if_pos he]
      rw [if_pos (by simpa using he)]
      unfold halfLow halfHigh
      rw [e, if_neg (by decide), if_neg (by decide)]
      exact ⟨rfl, rfl, rfl, trivial⟩
    · have e : halfErr b register = 0 := by unfold halfErr Rd; rw [if_pos ⟨hv, hr⟩, if_neg he]
      rw [if_neg (by simpa using he)]
      unfold halfLow halfHigh midR Rd
      rw [e, if_pos rfl, if_pos rfl]
      have h4 : List.length ([] : List Rng) + b.length ≤ 4294967296 := by simp only [List.length_nil]; omega
      exact ⟨h4, h4, by unfold inI; omega, by omega, hI, by unfold inI; omega, by omega, by unfold inI; omega, hI, rfl, rfl, rfl, trivial⟩
  · have e : halfErr b register = 1 := by unfold halfErr; rw [if_neg (by rintro ⟨_, h⟩; exact hr h)]
    rw [if_pos (by
      have : within register 0 3 = false := by
        cases hw : within register 0 3
        · rfl
        · exact absurd (within_iff.1 hw) hr
      rw [this]; rfl)]
    unfold halfLow halfHigh
    rw [e, if_neg (by decide), if_neg (by decide)]
    exact ⟨rfl, rfl, rfl, trivial⟩
abbrev cKnown6 : Con := { A := .nil, R := (.cons .bool .nil), pre := fun x => True, F := fun x => (true, ()) }
def cKnown6_0   (y0 : Bool) : Prop :=
  True ∧ (True ∧ (if ((err6 [(4, 0, 1, 1, ())] [(0, 0, ()), (0, 5, ()), (0, 0, ()), (0, 0, ())]) == (0 : Int)) = true then (((if err6 [(4, 0, 1, 1, ())] [(0, 0, ()), (0, 5, ()), (0, 0, ()), (0, 0, ())] = 0 then afterB [(4, 0, 1, 1, ())] [(0, 0, ()), (0, 5, ()), (0, 0, ()), (0, 0, ())] else [])).length ≤ 1000000 ∧ (True ∧ (if (bif true then (decide (((if err6 [(4, 0, 1, 1, ())] [(0, 0, ()), (0, 5, ()), (0, 0, ()), (0, 0, ())] = 0 then afterB [(4, 0, 1, 1, ())] [(0, 0, ()), (0, 5, ()), (0, 0, ()), (0, 0, ())] else [])) = [((-5), 5, ()), (0, 5, ()), (0, 0, ()), (0, 0, ())])) else false) = true then (True ∧ (if (bif true then ((halfErr [(0, 4, ()), (0, 0, ()), (0, 0, ()), (0, 0, ())] (0 : Int)) == (0 : Int)) else false) = true then ((halfLow [(0, 4, ()), (0, 0, ()), (0, 0, ()), (0, 0, ())] (0 : Int)).length ≤ 1000000 ∧ (True ∧ (if (bif true then (decide ((halfLow [(0, 4, ()), (0, 0, ()), (0, 0, ()), (0, 0, ())] (0 : Int)) = [(0, 2, ()), (0, 0, ()), (0, 0, ()), (0, 0, ())])) else false) = true then ((halfHigh [(0, 4, ()), (0, 0, ()), (0, 0, ()), (0, 0, ())] (0 : Int)).length ≤ 1000000 ∧ (True ∧ ((bif true then (decide ((halfHigh [(0, 4, ()), (0, 0, ()), (0, 0, ()), (0, 0, ())] (0 : Int)) = [(3, 4, ()), (0, 0, ()), (0, 0, ()), (0, 0, ())])) else false) = y0 ∧ True))) else (false = false ∧ (false = y0 ∧ True))))) else (false = false ∧ (false = false ∧ (false = y0 ∧ True))))) else (false = false ∧ (false = false ∧ (false = false ∧ (false = y0 ∧ True))))))) else (false = false ∧ (false = false ∧ (false = false ∧ (false = false ∧ (false = y0 ∧ True)))))))
theorem cKnown6_law (h : cKnown6.A.wf (()) → cKnown6_0   true) : ConOK Go.Proofs.Try.prog 18 cKnown6 := by
  refine lawL (Γ := [(19, cAfter), (31, cHalves), (23, cSameR)]) (Θ := Th) (n := 62) [] ⟨cAfter_ok, cHalves_ok, cSameR_ok, trivial⟩ (by kernel_rfl) th_ok mix_ok Go.Proofs.Try.func18 (by kernel_rfl) ?_
  intro x hw hp Λ hC
  have h0 := h  hw  
  exact Eq.mpr (by kernel_rfl) h0
theorem cKnown6_ok : ConOK Go.Proofs.Try.prog 18 cKnown6 := by
  refine cKnown6_law ?_
  intro hw
  unfold cKnown6_0
  decide +kernel
end Go.Tk
