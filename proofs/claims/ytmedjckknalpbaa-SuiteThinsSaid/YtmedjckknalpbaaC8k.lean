import Derived.Test.YtmedjckknalpbaaC8j
import Derived.Test.YtmedjckknalpbaaP8k
import Derived.Shelf.SlicesE.Delete
import Derived.Shelf.SlGeneric
import Derived.Ground.SlgnProg
set_option linter.unusedSimpArgs false
set_option linter.unusedVariables false
set_option linter.unnecessarySimpa false
namespace Go.Proofs
open Go.RowKit Go.Sort Go.Shelf
shelf_lay_g SlLaysE.n45 Slgn 45 at Try 86 as Try.deleteI
end Go.Proofs
namespace Go.Tk
open Go Go.RowKit
theorem int_zero (w : World) : (zeroValue 3).run Go.Proofs.Try.prog w = .ok (.int .i64 0) w := by kernel_rfl
theorem int_info : ∃ i0, Go.Proofs.Try.prog.info? 3 = some i0 ∧ i0.size = 1 := by
  obtain ⟨fi, i1, i2, _⟩ := tys_info ((tyB_ok Go.Proofs.Try.prog .int).1 3 (by kernel_rfl))
  exact ⟨fi, i1, i2⟩
abbrev cDelI : InC := { a := .int, B := (.cons .int (.cons .int .nil)), pre := fun xs x => 0 ≤ x.1 ∧ x.1 < x.2.1 ∧ x.2.1 ≤ xs.length, F := fun xs x => xs.take x.1.toNat ++ xs.drop x.2.1.toNat, ret := true }
theorem cDelI_ok : FunOK Go.Proofs.Try.prog 86 ∧ InF Go.Proofs.Try.prog 86 cDelI := by
  refine ⟨funB_ok (by kernel_rfl), ?_⟩
  rintro w S xs ⟨i, j, ⟨⟩⟩ v ob vs hown hnS hv hp
  change List Int at xs
  change Int at i
  change Int at j
  obtain ⟨p1, p2, p3⟩ : 0 ≤ i ∧ i < j ∧ j ≤ xs.length := hp
  obtain ⟨v1, vs1, b1, b2, rfl, _, h1, h2⟩ := hv
  obtain ⟨v2, vs2, b3, b4, rfl, _, h3, h4⟩ := h2
  obtain ⟨rfl, _⟩ : vs2 = [] ∧ _ := h4
  obtain ⟨_, c1, rfl, q1, _⟩ := h1
  obtain ⟨_, c2, rfl, q2, _⟩ := h3
  change c1 = [.int .i64 i] at q1
  change c2 = [.int .i64 j] at q2
  subst q1
  subst q2
  obtain ⟨a, rfl⟩ : ∃ a : Nat, i = a := ⟨i.toNat, by omega⟩
  obtain ⟨c, rfl⟩ : ∃ c : Nat, j = c := ⟨j.toNat, by omega⟩
  rcases hown with ⟨rfl, rfl, rfl⟩ | ⟨b, off, cap, cur, e, rfl, rfl, _, h4, h5, h6, h7, h8⟩
  · simp at p3; omega
  · obtain ⟨hx, hin⟩ := repL_ints h8
    have hx : (cur.toList.drop off).take (xs.length * 1) = xs.map (Value.int .i64) := hx
    have hcapm : off + cap * 1 ≤ cur.size := h7
    have hb : b < w.heap.size := (Array.getElem?_eq_some_iff.1 h4).1
    have hH : Sort.Holds (Value.int .i64) w b off xs.toArray := by
      intro j hj
      have hj : j < xs.length := by simpa using hj
      constructor
      · rw [cell_of_row w b (off + j) cur e (0, 0) h4]
        have h1 := congrArg (fun l => l[j]?) hx
        simp only [List.getElem?_take, List.getElem?_drop, List.getElem?_map] at h1
        rw [if_pos (by omega), List.getElem?_eq_getElem hj] at h1
        rw [← Array.getElem?_toList, h1]
        simp [hj]
      · unfold World.frozen?
        rw [h4]
        simp
    obtain ⟨i0, hi0, hz1⟩ := int_info
    have hlen : (xs.take a ++ xs.drop c ++ List.replicate (c - a) 0).length = xs.length := by
      simp only [List.length_append, List.length_take, List.length_drop, List.length_replicate]; omega
    have hzl : (xs.take a ++ xs.drop c).length = xs.length - (c - a) := by
      simp only [List.length_append, List.length_take, List.length_drop]; omega
    refine (Go.Proofs.AnyE.slices_Delete Go.Proofs.Try.deleteI (Value.int .i64) (fun _ => rfl) 0 int_zero i0 hi0 hz1 b off cap a c xs.toArray w hH (by simpa using h5) h6.2 (by omega) (by simp; omega)).mono ?_
    rintro en w' ⟨rfl, n, hw'⟩
    have hw' : w' = Sort.putRow (Value.int .i64) (Sort.ahead w n) b off (xs.take a ++ xs.drop c ++ List.replicate (c - a) 0).toArray := hw'
    subst hw'
    obtain ⟨cur', c1, c2, c3⟩ := putRow_heap (n := n) h4 hlen hx
    have hcells : (cur'.toList.drop off).take ((xs.take a ++ xs.drop c).length * 1) = (xs.take a ++ xs.drop c).map (Value.int .i64) := by
      have h1 := congrArg (List.take (xs.take a ++ xs.drop c).length) c3
      have hmin : min (xs.take a ++ xs.drop c).length ((xs.take a ++ xs.drop c ++ List.replicate (c - a) 0).length * 1) = (xs.take a ++ xs.drop c).length * 1 := by rw [hlen, hzl]; omega
      rw [List.take_take, hmin, List.map_append, List.take_left' (by rw [List.length_map])] at h1
      exact h1
    refine ⟨.slice (some ⟨b, off, none⟩) (xs.length - (c - a)) cap, some (b, off), rfl, .inr ⟨b, off, cap, cur', e, rfl, ?_, trivial, c1, ?_, ?_, ?_, ?_⟩, fun b' o e => .inr ⟨o, e⟩, ?_⟩
    · show _ = Value.slice _ (xs.take a ++ xs.drop c).length cap
      rw [hzl]
    · show (xs.take a ++ xs.drop c).length ≤ cap
      rw [hzl]; omega
    · have h61 := h6.1
      exact ⟨show (xs.take a ++ xs.drop c).length ≤ 140737488355328 by rw [hzl]; omega, h6.2⟩
    · rw [c2]; exact h7
    · show repL _ (xs.take a ++ xs.drop c) ((cur'.toList.drop off).take ((xs.take a ++ xs.drop c).length * 1))
      rw [hcells]
      refine repL_of_ints fun y hy => hin y ?_
      rcases List.mem_append.1 hy with hy | hy
      · exact List.mem_of_mem_take hy
      · exact List.mem_of_mem_drop hy
    · refine ⟨rfl, rfl, rfl, ?_, fun i hi hne => ?_⟩
      · rw [Sort.size_putRow]; exact Nat.le_refl _
      · have hne : b ≠ i := fun h => hne off (by rw [h])
        unfold Sort.putRow Sort.mapBlock
        show (Array.modify w.heap b _)[i]? = _
        rw [Array.getElem?_modify, if_neg hne]
abbrev cBackI1 : Con := { A := (.cons (.ref (.sl .int)) .nil), R := .seq false (.cons .int (.cons .int .nil)), pre := fun _ => True, F := fun x => ((True, bkI x.1 (x.1).length) : Prop × List Rtl) }
def cBackI1_0 (Λ1 : Int → Nat → Prop) (c0 : (List Int)) (y0 : List Rtl) : Prop :=
  inI ((List.length c0 : Int) - (1 : Int)) ∧ Λ1 ((List.length c0 : Int) - (1 : Int)) 0
def cBackI1_1 (Λ1 : Int → Nat → Prop) (c0 : (List Int)) (y0 : List Rtl)  (i_1 : Int) (k_1 : Nat) : Prop :=
  if (decide (i_1 ≥ (0 : Int))) = true then (idx i_1 (List.length c0 : Int) ∧ (y0[k_1]? = some (i_1, (List.getD c0 (Int.toNat i_1) 0), ()) ∧ (inI (i_1 - (1 : Int)) ∧ Λ1 (i_1 - (1 : Int)) (k_1 + 1)) ∧ True)) else k_1 = List.length y0
theorem cBackI1_law (h : ∀ (c0 : (List Int)), cBackI1.A.wf (c0, ()) → ((True, bkI c0 (c0).length)).1 → ∀ (Λ1 : Int → Nat → Prop), (∀ (i_1 : Int) (k_1 : Nat), cBackI1_1 Λ1 c0 ((True, bkI c0 (c0).length)).2 i_1 k_1 → Λ1 i_1 k_1) → cBackI1_0 Λ1 c0 ((True, bkI c0 (c0).length)).2) : ConOK Go.Proofs.Try.prog 114 cBackI1 := by
  refine lawIt (X := { subs := [], frz := [], U := [], mul := [], nst := [], nls := [], itf := some false, inp := [], arrs := [] }) (hX := xok0 _ trivial) (Γ := []) (Θ := Th) (n := 19) [([1, 0], ⟨[(0, true), (1, false), (3, true)], [(5000000, true)]⟩)] trivial (by kernel_rfl) th_ok mix_ok Go.Proofs.Try.func114 (by kernel_rfl) ?_
  intro x hw hp Λ hC
  have h0 := h x.1 hw hp (fun i_1 k_1 => Λ [1, 0] ([(0, .yld), (1, .d false (.ref (.sl .int)) x.1), (3, .d true .int i_1)], [(5000000, .it (.cons .int (.cons .int .nil)) (cBackI1.F x).2 k_1)])) (fun i_1 k_1 hb => hC [1, 0] ([(0, .yld), (1, .d false (.ref (.sl .int)) x.1), (3, .d true .int i_1)], [(5000000, .it (.cons .int (.cons .int .nil)) (cBackI1.F x).2 k_1)]) (Eq.mpr (by kernel_rfl) hb))
  exact Eq.mpr (by kernel_rfl) h0
theorem cBackI1_ok : ConOK Go.Proofs.Try.prog 114 cBackI1 := by
  refine cBackI1_law ?_
  intro c0 hw hp Λ1 h1
  unfold cBackI1_0
  have hlc : c0.length ≤ 140737488355328 := hw.1.1
  refine ⟨by unfold inI; omega, ?_⟩
  have key := upto (n := c0.length) (Q := fun k => Λ1 ((c0.length : Int) - 1 - k) k) ?_ ?_ 0 (Nat.zero_le _)
  · simpa using key
  · apply h1; unfold cBackI1_1
    rw [if_neg (by rw [decide_eq_true_eq]; omega), bkI_len]
  · intro k hk ih
    apply h1; unfold cBackI1_1
    rw [if_pos (by rw [decide_eq_true_eq]; omega), bkI_get c0 _ k hk]
    have e : ((c0.length : Int) - 1 - k).toNat = c0.length - 1 - k := by omega
    rw [e]
    refine ⟨⟨by omega, by omega⟩, ?_, ⟨by unfold inI; omega, ?_⟩, trivial⟩
    · congr 2; omega
    · rw [show ((c0.length : Int) - 1 - k - 1) = (c0.length : Int) - 1 - ((k + 1 : Nat) : Int) by omega]; exact ih
abbrev cBackI : Con := { A := (.cons (.sl .int) .nil), R := (.cons (.seq false (.cons .int (.cons .int .nil))) .nil), pre := fun x => True, F := fun x => ((True, bkI x.1 (x.1).length), ()), al := true }
def cBackI_0  (s : (List Int)) (y0 : (Prop × List Rtl)) : Prop :=
  ((True, bkI s (s).length)) = y0 ∧ True
theorem cBackI_law (h : ∀ (s : (List Int)), cBackI.A.wf (s, ()) → cBackI_0  s (True, bkI s (s).length)) : ConOK Go.Proofs.Try.prog 95 cBackI := by
  refine lawX (X := { subs := [], frz := [1], U := [], mul := [], nst := [], nls := [], itf := none, inp := [], arrs := [] }) (hX := xok0 _ trivial) (Γ := [(114, cBackI1)]) (Θ := Th) (n := 4) [] ⟨cBackI1_ok, trivial⟩ (by kernel_rfl) th_ok mix_ok Go.Proofs.Try.func95 (by kernel_rfl) ?_
  intro x hw hp Λ hC
  have h0 := h x.1 hw  
  exact Eq.mpr (by kernel_rfl) h0
theorem cBackI_ok : ConOK Go.Proofs.Try.prog 95 cBackI := by
  refine cBackI_law ?_
  intro s hw
  unfold cBackI_0
  exact ⟨rfl, trivial⟩
abbrev cLeast : Con := { A := (.cons (.sl (.sl .int)) (.cons (.sl .int) .nil)), R := (.cons (.sl .int) (.cons .int .nil)), pre := fun x => x.2.1.length ≤ 1000000, F := fun x => ((if rowsT x.1 x.2.1 = 0 then leastT x.1 x.2.1 else []), rowsT x.1 x.2.1, ()) }
def cLeast_0 (Λ1 : (List Int) → Nat → Prop) (t : (List (List Int))) (set_ : (List Int)) (y0 : (List Int)) (y1 : Int) : Prop :=
  True ∧ (if ((rowsT t set_) != (0 : Int)) = true then (([] : List Int) = y0 ∧ (rowsT t set_) = y1 ∧ True) else (set_.length ≤ 1000000 ∧ (True ∧ (((True, bkI set_ (set_).length)).1 ∧ Λ1 set_ 0))))
def cLeast_1 (Λ1 : (List Int) → Nat → Prop) (t : (List (List Int))) (set_ : (List Int)) (y0 : (List Int)) (y1 : Int)  (out_1 : (List Int)) (k_1 : Nat) : Prop :=
  (∀ e1 : Rtl, (((True, bkI set_ (set_).length)).2)[k_1]? = some e1 → (out_1.length ≤ 1000000 ∧ (inI (e1.1 + (1 : Int)) ∧ ((0 ≤ e1.1 ∧ e1.1 < (e1.1 + (1 : Int)) ∧ (e1.1 + (1 : Int)) ≤ out_1.length) ∧ ((okT t ∧ inT t (out_1.take e1.1.toNat ++ out_1.drop (e1.1 + (1 : Int)).toNat)) ∧ ((okT t ∧ inT t set_) ∧ (if ((List.length (metL t (out_1.take e1.1.toNat ++ out_1.drop (e1.1 + (1 : Int)).toNat)) : Int) == (List.length (metL t set_) : Int)) = true then Λ1 (out_1.take e1.1.toNat ++ out_1.drop (e1.1 + (1 : Int)).toNat) (k_1 + 1) else Λ1 out_1 (k_1 + 1)))))))) ∧ (List.length (((True, bkI set_ (set_).length)).2) ≤ k_1 → (out_1 = y0 ∧ (0 : Int) = y1 ∧ True))
theorem cLeast_law (h : ∀ (t : (List (List Int))) (set_ : (List Int)), cLeast.A.wf (t, set_, ()) → (set_.length ≤ 1000000) → ∀ (Λ1 : (List Int) → Nat → Prop), (∀ (out_1 : (List Int)) (k_1 : Nat), cLeast_1 Λ1 t set_ (if rowsT t set_ = 0 then leastT t set_ else []) (rowsT t set_) out_1 k_1 → Λ1 out_1 k_1) → cLeast_0 Λ1 t set_ (if rowsT t set_ = 0 then leastT t set_ else []) (rowsT t set_)) : ConOK Go.Proofs.Try.prog 48 cLeast := by
  refine lawX (X := { subs := [], frz := [], U := [], mul := [], nst := [], nls := [], itf := none, inp := [(86, cDelI)], arrs := [] }) (hX := xok0 _ ⟨cDelI_ok, trivial⟩) (Γ := [(95, cBackI), (91, cCloneI), (81, cMet8), (78, cRows8)]) (Θ := Th) (n := 39) [([1, 1, 1, 0, 1, 0], ⟨[(2, true), (3, true), (4, true), (5, true), (7, true)], [(2, false), (3, false), (4, true), (7, true), (4000000, true)]⟩)] ⟨cBackI_ok, cCloneI_ok, cMet8_ok, cRows8_ok, trivial⟩ (by kernel_rfl) th_ok mix_ok Go.Proofs.Try.func48 (by kernel_rfl) ?_
  intro x hw hp Λ hC
  have h0 := h x.1 x.2.1 hw hp (fun out_1 k_1 => Λ [1, 1, 1, 0, 1, 0] ([(2, .ptr 2 0 []), (3, .ptr 3 0 []), (4, .own 4 0), (5, .d true .int 0), (7, .ptr 7 0 [])], [(2, .box false (.sl (.sl .int)) x.1), (3, .box false (.sl .int) x.2.1), (4, .sl true .int ([] : List Int)), (7, .box true (.sl .int) out_1), (4000000, .rg false (.cons .int (.cons .int .nil)) (((True, bkI x.2.1 (x.2.1).length)).2) k_1)])) (fun out_1 k_1 hb => hC [1, 1, 1, 0, 1, 0] ([(2, .ptr 2 0 []), (3, .ptr 3 0 []), (4, .own 4 0), (5, .d true .int 0), (7, .ptr 7 0 [])], [(2, .box false (.sl (.sl .int)) x.1), (3, .box false (.sl .int) x.2.1), (4, .sl true .int ([] : List Int)), (7, .box true (.sl .int) out_1), (4000000, .rg false (.cons .int (.cons .int .nil)) (((True, bkI x.2.1 (x.2.1).length)).2) k_1)]) (Eq.mpr (by kernel_rfl) hb))
  exact Eq.mpr (by kernel_rfl) h0
theorem cLeast_ok : ConOK Go.Proofs.Try.prog 48 cLeast := by
  refine cLeast_law ?_
  intro t set_ hw hp Λ1 h1
  unfold cLeast_0
  refine ⟨trivial, ?_⟩
  by_cases h : rowsT t set_ = 0
  · rw [if_neg (by simp [h])]
    rw [if_pos h, h] at h1
    obtain ⟨g1, g2, g3⟩ := rowsT_ok h
    refine ⟨hp, trivial, trivial, ?_⟩
    have key : ∀ k, k ≤ set_.length → ∀ out : List Int, set_.length - k ≤ out.length → out.length ≤ set_.length → (∀ r ∈ out, r ∈ set_) → leastF t (metL t set_).length (set_.length - k) out = leastT t set_ → Λ1 out k := by
      refine upto ?_ ?_
      · intro out _ _ _ hout
        rw [Nat.sub_self] at hout
        apply h1; unfold cLeast_1
        refine ⟨fun e he => ?_, fun _ => ⟨hout, rfl, trivial⟩⟩
        rw [List.getElem?_eq_none (by rw [bkI_len]; exact Nat.le_refl _)] at he
        cases he
      · intro k hk ih out ho ho2 hs hout
        apply h1; unfold cLeast_1
        refine ⟨fun e he => ?_, fun h => absurd h (by rw [bkI_len]; omega)⟩
        rw [bkI_get set_ _ k hk] at he
        cases he
        have en : set_.length - k = (set_.length - 1 - k) + 1 := by omega
        have en2 : set_.length - (k + 1) = set_.length - 1 - k := by omega
        rw [en] at hout
        rw [en2] at ih
        obtain ⟨n, hn⟩ : ∃ n, n = set_.length - 1 - k := ⟨_, rfl⟩
        rw [← hn] at hout ih ⊢
        have e1 : (n : Int).toNat = n := Int.toNat_natCast n
        have e2 : ((n : Int) + 1).toNat = n + 1 := by omega
        have hlt : n < out.length := by omega
        dsimp only
        rw [e1, e2]
        have hcs : ∀ r ∈ cutAt out n, r ∈ set_ := fun r hr => hs r ((cutAt_sub _ _).mem hr)
        refine ⟨by omega, by unfold inI; omega, ⟨by omega, by omega, by omega⟩, ⟨g1, fun r hr => g2 r (hcs r hr)⟩, ⟨g1, g2⟩, ?_⟩
        change leastF t (metL t set_).length n (stepL t (metL t set_).length out n) = leastT t set_ at hout
        by_cases hc : (metL t (cutAt out n)).length = (metL t set_).length
        · rw [if_pos (by unfold cutAt at hc; simp [hc])]
          have es : stepL t (metL t set_).length out n = cutAt out n := by unfold stepL; rw [if_pos hc]
          rw [es] at hout
          exact ih (cutAt out n) (by rw [cutAt_len hlt]; omega) (by rw [cutAt_len hlt]; omega) hcs hout
        · rw [if_neg (by unfold cutAt at hc; simp; omega)]
          have es : stepL t (metL t set_).length out n = out := by unfold stepL; rw [if_neg hc]
          rw [es] at hout
          exact ih out (by omega) ho2 hs hout
    exact key 0 (Nat.zero_le _) set_ (by omega) (Nat.le_refl _) (fun _ h => h) (by rw [Nat.sub_zero]; rfl)
  · rw [if_pos (by simp [h]), if_neg h]
    exact ⟨rfl, rfl, trivial⟩
abbrev cLeastR : Con := { A := (.cons (.sl (.sl .int)) (.cons (.sl .int) .nil)), R := (.cons (.sl .int) (.cons .int .nil)), pre := fun x => x.2.1.length ≤ 1000000, F := fun x => ((if rowsT x.1 x.2.1 = 0 then leastT x.1 x.2.1 else []), rowsT x.1 x.2.1, ()) }
def cLeastR_0 (Λ1 : (List Int) → Int → Prop) (t : (List (List Int))) (rows : (List Int)) (y0 : (List Int)) (y1 : Int) : Prop :=
  rows.length ≤ 1000000 ∧ (if ((rowsT t rows) != (0 : Int)) = true then (([] : List Int) = y0 ∧ (rowsT t rows) = y1 ∧ True) else ((okT t ∧ inT t rows ∧ rows.length ≤ 1000000) ∧ (List.length ([] : List Int) + List.length rows ≤ 4294967296 ∧ (inI ((List.length (([] : List Int) ++ rows) : Int) - (1 : Int)) ∧ Λ1 (([] : List Int) ++ rows) ((List.length (([] : List Int) ++ rows) : Int) - (1 : Int))))))
def cLeastR_1 (Λ1 : (List Int) → Int → Prop) (t : (List (List Int))) (rows : (List Int)) (y0 : (List Int)) (y1 : Int)  (out_1 : (List Int)) (i_1 : Int) : Prop :=
  if (decide (i_1 ≥ (0 : Int))) = true then ((0 ≤ (0 : Int) ∧ (0 : Int) ≤ i_1 ∧ i_1 ≤ (List.length out_1 : Int) ∧ (List.length out_1 : Int) ≤ (List.length out_1 : Int)) ∧ (List.length ([] : List Int) + List.length (List.drop (Int.toNat (0 : Int)) (List.take (Int.toNat i_1) out_1)) ≤ 4294967296 ∧ (inI (i_1 + (1 : Int)) ∧ ((0 ≤ (i_1 + (1 : Int)) ∧ (i_1 + (1 : Int)) ≤ (List.length out_1 : Int) ∧ (List.length out_1 : Int) ≤ (List.length out_1 : Int) ∧ (List.length out_1 : Int) ≤ (List.length out_1 : Int)) ∧ (List.length (([] : List Int) ++ (List.drop (Int.toNat (0 : Int)) (List.take (Int.toNat i_1) out_1))) + List.length (List.drop (Int.toNat (i_1 + (1 : Int))) (List.take (Int.toNat (List.length out_1 : Int)) out_1)) ≤ 4294967296 ∧ ((okT t ∧ inT t ((([] : List Int) ++ (List.drop (Int.toNat (0 : Int)) (List.take (Int.toNat i_1) out_1))) ++ (List.drop (Int.toNat (i_1 + (1 : Int))) (List.take (Int.toNat (List.length out_1 : Int)) out_1))) ∧ ((([] : List Int) ++ (List.drop (Int.toNat (0 : Int)) (List.take (Int.toNat i_1) out_1))) ++ (List.drop (Int.toNat (i_1 + (1 : Int))) (List.take (Int.toNat (List.length out_1 : Int)) out_1))).length ≤ 1000000) ∧ (if ((List.length (metL t ((([] : List Int) ++ (List.drop (Int.toNat (0 : Int)) (List.take (Int.toNat i_1) out_1))) ++ (List.drop (Int.toNat (i_1 + (1 : Int))) (List.take (Int.toNat (List.length out_1 : Int)) out_1)))) : Int) == (List.length (metL t rows) : Int)) = true then (inI (i_1 - (1 : Int)) ∧ Λ1 ((([] : List Int) ++ (List.drop (Int.toNat (0 : Int)) (List.take (Int.toNat i_1) out_1))) ++ (List.drop (Int.toNat (i_1 + (1 : Int))) (List.take (Int.toNat (List.length out_1 : Int)) out_1))) (i_1 - (1 : Int))) else (inI (i_1 - (1 : Int)) ∧ Λ1 out_1 (i_1 - (1 : Int)))))))))) else (out_1 = y0 ∧ (0 : Int) = y1 ∧ True)
theorem cLeastR_law (h : ∀ (t : (List (List Int))) (rows : (List Int)), cLeastR.A.wf (t, rows, ()) → (rows.length ≤ 1000000) → ∀ (Λ1 : (List Int) → Int → Prop), (∀ (out_1 : (List Int)) (i_1 : Int), cLeastR_1 Λ1 t rows (if rowsT t rows = 0 then leastT t rows else []) (rowsT t rows) out_1 i_1 → Λ1 out_1 i_1) → cLeastR_0 Λ1 t rows (if rowsT t rows = 0 then leastT t rows else []) (rowsT t rows)) : ConOK Go.Proofs.Try.prog 49 cLeastR := by
  refine lawL (Γ := [(71, cMet8r), (79, cRowed8)]) (Θ := Th) (n := 49) [([1, 1, 1, 1, 1, 0, 1, 0], ⟨[(0, false), (7, true), (8, true), (9, true)], []⟩)] ⟨cMet8r_ok, cRowed8_ok, trivial⟩ (by kernel_rfl) th_ok mix_ok Go.Proofs.Try.func49 (by kernel_rfl) ?_
  intro x hw hp Λ hC
  have h0 := h x.1 x.2.1 hw hp (fun out_1 i_1 => Λ [1, 1, 1, 1, 1, 0, 1, 0] ([(0, .d false (.sl (.sl .int)) x.1), (7, .d true .int (List.length (metL x.1 x.2.1) : Int)), (8, .d true (.sl .int) out_1), (9, .d true .int i_1)], [])) (fun out_1 i_1 hb => hC [1, 1, 1, 1, 1, 0, 1, 0] ([(0, .d false (.sl (.sl .int)) x.1), (7, .d true .int (List.length (metL x.1 x.2.1) : Int)), (8, .d true (.sl .int) out_1), (9, .d true .int i_1)], []) (Eq.mpr (by kernel_rfl) hb))
  exact Eq.mpr (by kernel_rfl) h0
theorem cLeastR_ok : ConOK Go.Proofs.Try.prog 49 cLeastR := by
  refine cLeastR_law ?_
  intro t rows hw hp Λ1 h1
  unfold cLeastR_0
  refine ⟨hp, ?_⟩
  by_cases h : rowsT t rows = 0
  · rw [if_neg (by simp [h])]
    rw [if_pos h, h] at h1
    obtain ⟨g1, g2, g3⟩ := rowsT_ok h
    refine ⟨⟨g1, g2, hp⟩, by simp; omega, by simp; unfold inI; omega, ?_⟩
    have key : ∀ k, k ≤ rows.length → ∀ out : List Int, rows.length - k ≤ out.length → out.length ≤ rows.length → (∀ r ∈ out, r ∈ rows) → leastF t (metL t rows).length (rows.length - k) out = leastT t rows → Λ1 out ((rows.length : Int) - 1 - k) := by
      refine upto ?_ ?_
      · intro out _ _ _ hout
        rw [Nat.sub_self] at hout
        apply h1; unfold cLeastR_1
        rw [if_neg (by rw [decide_eq_true_eq]; omega)]
        exact ⟨hout, rfl, trivial⟩
      · intro k hk ih out ho ho2 hs hout
        apply h1; unfold cLeastR_1
        rw [if_pos (by rw [decide_eq_true_eq]; omega)]
        have en : rows.length - k = (rows.length - 1 - k) + 1 := by omega
        have en2 : rows.length - (k + 1) = rows.length - 1 - k := by omega
        rw [en] at hout
        rw [en2] at ih
        obtain ⟨n, hn⟩ : ∃ n, n = rows.length - 1 - k := ⟨_, rfl⟩
        have hni : (rows.length : Int) - 1 - k = (n : Int) := by omega
        have hnj : (rows.length : Int) - 1 - ((k + 1 : Nat) : Int) = (n : Int) - 1 := by omega
        rw [← hn] at hout ih
        rw [hnj] at ih
        rw [hni]
        have e1 : (n : Int).toNat = n := Int.toNat_natCast n
        have e2 : ((n : Int) + 1).toNat = n + 1 := by omega
        have e3 : ((out.length : Nat) : Int).toNat = out.length := Int.toNat_natCast _
        have hlt : n < out.length := by omega
        rw [e1, e2, e3, List.take_length, show (Int.toNat 0) = 0 from rfl, List.drop_zero, List.nil_append]
        have hcs : ∀ r ∈ cutAt out n, r ∈ rows := fun r hr => hs r ((cutAt_sub _ _).mem hr)
        have hcl := cutAt_len hlt
        have hini : inI ((n : Int) - 1) := by unfold inI; omega
        refine ⟨⟨by omega, by omega, by omega, by omega⟩, by simp; omega, by unfold inI; omega, ⟨by omega, by omega, by omega, by omega⟩, by simp; omega, ⟨g1, fun r hr => g2 r (hcs r hr), by show (cutAt out n).length ≤ 1000000; omega⟩, ?_⟩
        change leastF t (metL t rows).length n (stepL t (metL t rows).length out n) = leastT t rows at hout
        by_cases hc : (metL t (cutAt out n)).length = (metL t rows).length
        · rw [if_pos (by unfold cutAt at hc; simp [hc])]
          have es : stepL t (metL t rows).length out n = cutAt out n := by unfold stepL; rw [if_pos hc]
          rw [es] at hout
          exact ⟨hini, ih (cutAt out n) (by omega) (by omega) hcs hout⟩
        · rw [if_neg (by unfold cutAt at hc; simp; omega)]
          have es : stepL t (metL t rows).length out n = out := by unfold stepL; rw [if_neg hc]
          rw [es] at hout
          exact ⟨hini, ih out (by omega) ho2 hs hout⟩
    have := key 0 (Nat.zero_le _) rows (by omega) (Nat.le_refl _) (fun _ h => h) (by rw [Nat.sub_zero]; rfl)
    simpa using this
  · rw [if_pos (by simp [h]), if_neg h]
    exact ⟨rfl, rfl, trivial⟩
abbrev cLeastsL : Con := { A := (.cons (.sl (.sl .int)) (.cons (.sl .int) .nil)), R := (.cons .bool .nil), pre := fun x => True, F := fun x => (true, ()) }
def cLeastsL_0  (t : (List (List Int))) (rows : (List Int)) (y0 : Bool) : Prop :=
  True ∧ (if (longT t) = true then (true = true ∧ (True ∧ (true = y0 ∧ True))) else (True ∧ (if (bif false then true else (decide ((List.length rows : Int) > (50 : Int)))) = true then (True ∧ (true = y0 ∧ True)) else (rows.length ≤ 1000000 ∧ (rows.length ≤ 1000000 ∧ (True ∧ (if (!(decide (((if rowsT t rows = 0 then leastT t rows else [])) = ((if rowsT t rows = 0 then leastT t rows else []))))) = true then (true = true ∧ (false = y0 ∧ True)) else (True ∧ (if (bif false then true else ((rowsT t rows) != (rowsT t rows))) = true then (false = y0 ∧ True) else (if ((rowsT t rows) != (0 : Int)) = true then (True ∧ (true = y0 ∧ True)) else (True ∧ (True ∧ (((if rowsT t rows = 0 then leastT t rows else [])).length ≤ 1000000 ∧ (if ((rowsT t rows) == (0 : Int)) = true then (True ∧ (if (bif true then ((rowsT t ((if rowsT t rows = 0 then leastT t rows else []))) == (0 : Int)) else false) = true then (True ∧ (True ∧ (if (bif true then (decide (((if rowsT t rows = 0 then metL t rows else [])) = ((if rowsT t ((if rowsT t rows = 0 then leastT t rows else [])) = 0 then metL t ((if rowsT t rows = 0 then leastT t rows else [])) else [])))) else false) = true then (True ∧ (if (bif true then ((rowsT t ((if rowsT t rows = 0 then leastT t rows else []))) == (0 : Int)) else false) = true then (True ∧ (True ∧ (if (bif true then (decide (((if rowsT t ((if rowsT t rows = 0 then leastT t rows else [])) = 0 then leastT t ((if rowsT t rows = 0 then leastT t rows else [])) else [])) = ((if rowsT t rows = 0 then leastT t rows else [])))) else false) = true then (True ∧ (True ∧ ((bif true then true else false) = y0 ∧ True))) else (false = false ∧ (false = y0 ∧ True))))) else (false = false ∧ (false = false ∧ (false = y0 ∧ True))))) else (false = false ∧ (false = false ∧ (false = false ∧ (false = y0 ∧ True))))))) else (false = false ∧ (false = false ∧ (false = false ∧ (false = false ∧ (false = y0 ∧ True))))))) else (false = false ∧ (false = false ∧ (false = false ∧ (false = false ∧ (false = false ∧ (false = y0 ∧ True))))))))))))))))))))
theorem cLeastsL_law (h : ∀ (t : (List (List Int))) (rows : (List Int)), cLeastsL.A.wf (t, rows, ()) → cLeastsL_0  t rows true) : ConOK Go.Proofs.Try.prog 13 cLeastsL := by
  refine lawL (Γ := [(48, cLeast), (49, cLeastR), (17, cLong8), (33, cMetS), (21, cSameI8), (18, cSane8)]) (Θ := Th) (n := 88) [] ⟨cLeast_ok, cLeastR_ok, cLong8_ok, cMetS_ok, cSameI8_ok, cSane8_ok, trivial⟩ (by kernel_rfl) th_ok mix_ok Go.Proofs.Try.func13 (by kernel_rfl) ?_
  intro x hw hp Λ hC
  have h0 := h x.1 x.2.1 hw  
  exact Eq.mpr (by kernel_rfl) h0
theorem cLeastsL_ok : ConOK Go.Proofs.Try.prog 13 cLeastsL := by
  refine cLeastsL_law ?_
  intro t rows hw
  unfold cLeastsL_0
  refine ⟨trivial, ?_⟩
  cases hL : longT t
  · rw [if_neg (by simp)]
    refine ⟨trivial, ?_⟩
    by_cases h50 : rows.length > 50
    · rw [if_pos (by simp; omega)]
      exact ⟨trivial, rfl, trivial⟩
    · rw [if_neg (by simp; omega)]
      have h6 : rows.length ≤ 1000000 := by omega
      refine ⟨h6, h6, trivial, ?_⟩
      rw [if_neg (by simp)]
      refine ⟨trivial, ?_⟩
      rw [if_neg (by simp)]
      by_cases h : rowsT t rows = 0
      · obtain ⟨g1, g2, g3⟩ := rowsT_ok h
        have hv := validT_ok.2 g1
        have ha := least_rows h hv g3
        have hm := least_met (t := t) (l := rows)
        have hag := least_again (t := t) (isSet8_pair.1 g3).1
        have hle : (leastT t rows).length ≤ 1000000 := by have := (least_sub (t := t) (l := rows)).length_le; omega
        simp [h, ha, hm, hag, hle]
      · rw [if_pos (by simp [h])]
        exact ⟨trivial, rfl, trivial⟩
  · rw [if_pos rfl]
    exact ⟨rfl, trivial, rfl, trivial⟩
end Go.Tk
