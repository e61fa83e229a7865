import Derived.Test.YtmedjckknalpbaaC8e
import Derived.Shelf.SortM.Plain
import Derived.Shelf.SortM.SortNone
import Derived.Ground.SlgmProg
set_option linter.unusedSimpArgs false
set_option linter.unusedVariables false
set_option linter.unnecessarySimpa false
namespace Go.Proofs
open Go.RowKit Go.Sort Go.Shelf
shelf_lay_g SlLaysM.n5 Slgm 5 at Try 118 as Try.sortI
end Go.Proofs
namespace Go.Tk
open Go Go.RowKit

/-! ### slices.Sort at numbers -/
theorem repL_ints {P : Program} {w : World} {S : Nat → Prop} : ∀ {xs : List Int} {cs : List Value}, repL ((reps P .int).c w S) xs cs → cs = xs.map (Value.int .i64) ∧ ∀ x ∈ xs, inI x
  | [], cs, h => ⟨h, by simp⟩
  | x :: xs, _, ⟨c1, c2, rfl, h1, h2⟩ => by
    obtain ⟨e, hi⟩ := h1
    obtain ⟨e2, hi2⟩ := repL_ints h2
    subst e; subst e2
    refine ⟨rfl, fun y hy => ?_⟩
    rcases List.mem_cons.1 hy with rfl | hy
    · exact hi
    · exact hi2 y hy
theorem repL_of_ints {P : Program} {w : World} {S : Nat → Prop} : ∀ {xs : List Int}, (∀ x ∈ xs, inI x) → repL ((reps P .int).c w S) xs (xs.map (Value.int .i64))
  | [], _ => rfl
  | x :: xs, h => ⟨[.int .i64 x], xs.map (Value.int .i64), rfl, ⟨rfl, h x (by simp)⟩, repL_of_ints fun y hy => h y (by simp [hy])⟩

def sortL (xs : List Int) : List Int := xs.mergeSort fun x y => decide (x ≤ y)
theorem sortL_len (xs : List Int) : (sortL xs).length = xs.length := by unfold sortL; exact List.length_mergeSort _
theorem sortL_perm (xs : List Int) : (sortL xs).Perm xs := List.mergeSort_perm ..

theorem grow_heap_lt {w : World} {os : Array Obj} {i : Nat} (h : i < w.heap.size) : (Sort.grow w os).heap[i]? = w.heap[i]? := by
  unfold Sort.grow
  exact Array.getElem?_append_left h

theorem putRow_heap {w : World} {n b off : Nat} {xs ys : List Int} {cur : Array Value} {e : TypeId} (h : w.heap[b]? = some (.cells cur e (0, 0))) (hl : ys.length = xs.length) (hx : (cur.toList.drop off).take (xs.length * 1) = xs.map (Value.int .i64)) :
    ∃ cur' : Array Value, (Sort.putRow (Value.int .i64) (Sort.ahead w n) b off ys.toArray).heap[b]? = some (.cells cur' e (0, 0)) ∧ cur'.size = cur.size ∧ (cur'.toList.drop off).take (ys.length * 1) = ys.map (Value.int .i64) := by
  refine ⟨Sort.putCells (Value.int .i64) off ys.toArray cur, ?_, by simp [Sort.putCells], ?_⟩
  · unfold Sort.putRow Sort.mapBlock
    have hb : (Sort.ahead w n).heap[b]? = some (.cells cur e (0, 0)) := h
    rw [Array.getElem?_modify, if_pos rfl, hb]
    rfl
  · have hlen : off + xs.length ≤ cur.size ∨ xs = [] := by
      cases xs with
      | nil => exact .inr rfl
      | cons x xs =>
        left
        have := congrArg List.length hx
        simp only [List.length_take, List.length_drop, List.length_map, Array.length_toList, List.length_cons] at this ⊢
        omega
    apply List.ext_getElem?
    intro i
    rw [List.getElem?_take, List.getElem?_map]
    by_cases hi : i < ys.length
    · rw [if_pos (by omega), List.getElem?_drop, Array.getElem?_toList]
      have hsz : off + i < cur.size := by
        rcases hlen with hlen | rfl
        · omega
        · rw [List.length_nil] at hl; omega
      unfold Sort.putCells
      rw [Array.getElem?_mapIdx, Array.getElem?_eq_getElem hsz]
      simp [hi]
    · rw [if_neg (by omega), List.getElem?_eq_none (by omega)]
      rfl

abbrev cSortI : InC := { a := .int, B := .nil, pre := fun xs x => True, F := fun xs x => sortL xs, ret := false }
theorem cSortI_ok : FunOK Go.Proofs.Try.prog 118 ∧ InF Go.Proofs.Try.prog 118 cSortI := by
  refine ⟨funB_ok (by kernel_rfl), ?_⟩
  intro w S xs x v ob vs hown hnS hv _
  obtain ⟨rfl, _⟩ : vs = [] ∧ _ := hv
  rcases hown with ⟨rfl, rfl, rfl⟩ | ⟨b, off, cap, cur, e, rfl, rfl, _, h4, h5, h6, h7, h8⟩
  · refine (Go.Proofs.AnyM.slices_Sort_int_none Go.Proofs.Try.sortI none 0 w).mono ?_
    rintro en w' ⟨rfl, rfl⟩
    exact ⟨.slice none 0 0, none, ⟨⟨_, rfl⟩, rfl, rfl⟩, .inl ⟨rfl, by simp [sortL], rfl⟩, fun b o e => (by cases e), ⟨rfl, rfl, rfl, Nat.le_refl _, fun _ _ _ => rfl⟩⟩
  · change List Int at xs
    obtain ⟨hx, hin⟩ := repL_ints h8
    have hx : (cur.toList.drop off).take (xs.length * 1) = xs.map (Value.int .i64) := hx
    have hb : b < w.heap.size := (Array.getElem?_eq_some_iff.1 h4).1
    have hH : Sort.Holds (Value.int .i64) w b off xs.toArray := by
      intro j hj
      have hj : j < xs.length := by simpa using hj
      constructor
      · rw [cell_of_row w b (off + j) cur e (0, 0) h4]
        have h1 := congrArg (fun l => l[j]?) hx
        simp only [List.getElem?_take, List.getElem?_drop, List.getElem?_map] at h1
        rw [if_pos (by omega), List.getElem?_eq_getElem hj] at h1
        rw [← Array.getElem?_toList, h1]
        simp [hj]
      · unfold World.frozen?
        rw [h4]
        simp
    refine (Go.Proofs.AnyM.slices_Sort_int Go.Proofs.Try.sortI b off cap xs w hH hb (by omega)).mono ?_
    rintro en w' ⟨rfl, n, os, hw'⟩
    have hw' : w' = Sort.grow (Sort.putRow (Value.int .i64) (Sort.ahead w n) b off (sortL xs).toArray) os := hw'
    subst hw'
    obtain ⟨cur', c1, c2, c3⟩ := putRow_heap (n := n) h4 (sortL_len xs) hx
    have hsz : (Sort.putRow (Value.int .i64) (Sort.ahead w n) b off (sortL xs).toArray).heap.size = w.heap.size := by
      rw [Sort.size_putRow]; rfl
    have hw' : (Sort.grow (Sort.putRow (Value.int .i64) (Sort.ahead w n) b off (sortL xs).toArray) os).heap[b]? = some (.cells cur' e (0, 0)) := by
      rw [grow_heap_lt (by rw [hsz]; exact hb)]; exact c1
    have hl : (sortL xs).length = xs.length := sortL_len xs
    refine ⟨.slice (some ⟨b, off, none⟩) xs.length cap, some (b, off), ⟨⟨_, rfl⟩, rfl, rfl⟩, .inr ⟨b, off, cap, cur', e, rfl, ?_, trivial, hw', ?_, ?_, ?_, ?_⟩, fun b' o e => .inr ⟨o, e⟩, ?_⟩
    · show _ = Value.slice _ (sortL xs).length cap
      rw [hl]
    · show (sortL xs).length ≤ cap
      rw [hl]; exact h5
    · show (sortL xs).length ≤ _ ∧ _
      rw [hl]; exact h6
    · rw [c2]; exact h7
    · show repL _ (sortL xs) ((cur'.toList.drop off).take ((sortL xs).length * 1))
      rw [c3]
      exact repL_of_ints fun y hy => hin y ((sortL_perm xs).mem_iff.1 hy)
    · refine ⟨rfl, rfl, rfl, ?_, fun i hi hne => ?_⟩
      · unfold Sort.grow
        rw [Array.size_append, hsz]; omega
      · rw [grow_heap_lt (by rw [hsz]; exact hi)]
        have hne : b ≠ i := fun h => hne off (by rw [h])
        unfold Sort.putRow Sort.mapBlock
        show (Array.modify w.heap b _)[i]? = _
        rw [Array.getElem?_modify, if_neg hne]
theorem map_tup (l : List Int) : ((l.map fun v' => (v', ())).map fun v' : Int × Unit => v'.1) = l := by
  rw [List.map_map]
  exact List.map_id l
abbrev cVals1 : Con := { A := (.cons (.ref (.sl .int)) .nil), R := .seq false (.cons .int .nil), pre := fun _ => True, F := fun x => ((True, x.1.map fun v' => (v', ())) : Prop × List (Int × Unit)) }
def cVals1_0 (Λ1 : Int → Nat → Prop) (c0 : (List Int)) (y0 : List (Int × Unit)) : Prop :=
  Λ1 (0 : Int) 0
def cVals1_1 (Λ1 : Int → Nat → Prop) (c0 : (List Int)) (y0 : List (Int × Unit))  (t7_1 : Int) (k_1 : Nat) : Prop :=
  if (decide (t7_1 < (List.length c0 : Int))) = true then (idx t7_1 (List.length c0 : Int) ∧ (y0[k_1]? = some ((List.getD c0 (Int.toNat t7_1) 0), ()) ∧ (inI (t7_1 + (1 : Int)) ∧ Λ1 (t7_1 + (1 : Int)) (k_1 + 1)) ∧ True)) else k_1 = List.length y0
theorem cVals1_law (h : ∀ (c0 : (List Int)), cVals1.A.wf (c0, ()) → ((True, c0.map fun v' => (v', ()))).1 → ∀ (Λ1 : Int → Nat → Prop), (∀ (t7_1 : Int) (k_1 : Nat), cVals1_1 Λ1 c0 ((True, c0.map fun v' => (v', ()))).2 t7_1 k_1 → Λ1 t7_1 k_1) → cVals1_0 Λ1 c0 ((True, c0.map fun v' => (v', ()))).2) : ConOK Go.Proofs.Try.prog 119 cVals1 := by
  refine lawIt (X := { subs := [], frz := [], U := [], mul := [], nst := [], nls := [], itf := some false, inp := [], arrs := [] }) (hX := xok0 _ trivial) (Γ := []) (Θ := Th) (n := 16) [([1, 0], ⟨[(0, true), (5, false), (6, true), (7, true)], [(5000000, true)]⟩)] trivial (by kernel_rfl) th_ok mix_ok Go.Proofs.Try.func119 (by kernel_rfl) ?_
  intro x hw hp Λ hC
  have h0 := h x.1 hw hp (fun t7_1 k_1 => Λ [1, 0] ([(0, .yld), (5, .d false (.sl .int) x.1), (6, .d true .int (List.length x.1 : Int)), (7, .d true .int t7_1)], [(5000000, .it (.cons .int .nil) (cVals1.F x).2 k_1)])) (fun t7_1 k_1 hb => hC [1, 0] ([(0, .yld), (5, .d false (.sl .int) x.1), (6, .d true .int (List.length x.1 : Int)), (7, .d true .int t7_1)], [(5000000, .it (.cons .int .nil) (cVals1.F x).2 k_1)]) (Eq.mpr (by kernel_rfl) hb))
  exact Eq.mpr (by kernel_rfl) h0
theorem cVals1_ok : ConOK Go.Proofs.Try.prog 119 cVals1 := by
  refine cVals1_law ?_
  intro c0 hw hp Λ1 h1
  unfold cVals1_0
  have hl : c0.length ≤ 140737488355328 := hw.1.1
  refine upto (n := c0.length) (Q := fun i => Λ1 i i) ?_ ?_ 0 (Nat.zero_le _)
  · apply h1; unfold cVals1_1
    rw [if_neg (by simp), List.length_map]
  · intro i hi ih
    apply h1; unfold cVals1_1
    rw [if_pos (by simpa using hi), Int.toNat_natCast]
    refine ⟨idx_nat hi, ?_, ⟨inI_succ hi hl, ih⟩, trivial⟩
    rw [List.getElem?_map, getElem?_of_getD (d := 0) hi]; rfl
abbrev cVals : Con := { A := (.cons (.sl .int) .nil), R := (.cons (.seq false (.cons .int .nil)) .nil), pre := fun x => True, F := fun x => ((True, x.1.map fun v' => (v', ())), ()), al := true }
def cVals_0  (s : (List Int)) (y0 : (Prop × List (Int × Unit))) : Prop :=
  ((True, s.map fun v' => (v', ()))) = y0 ∧ True
theorem cVals_law (h : ∀ (s : (List Int)), cVals.A.wf (s, ()) → cVals_0  s (True, s.map fun v' => (v', ()))) : ConOK Go.Proofs.Try.prog 113 cVals := by
  refine lawX (X := { subs := [], frz := [1], U := [], mul := [], nst := [], nls := [], itf := none, inp := [], arrs := [] }) (hX := xok0 _ trivial) (Γ := [(119, cVals1)]) (Θ := Th) (n := 4) [] ⟨cVals1_ok, trivial⟩ (by kernel_rfl) th_ok mix_ok Go.Proofs.Try.func113 (by kernel_rfl) ?_
  intro x hw hp Λ hC
  have h0 := h x.1 hw  
  exact Eq.mpr (by kernel_rfl) h0
theorem cVals_ok : ConOK Go.Proofs.Try.prog 113 cVals := by
  refine cVals_law ?_
  intro s hw
  unfold cVals_0
  exact ⟨rfl, trivial⟩
abbrev cAppSeq : Con := { A := (.cons (.seq false (.cons .int .nil)) .nil), R := (.cons (.osl .int) .nil), pre := fun x => x.1.1 ∧ x.1.2.length ≤ 1000000, F := fun x => (x.1.2.map fun v' => v'.1, ()) }
def cAppSeq_0 (Λ1 : (List (List Int)) → Nat → Prop) (seq : (Prop × List (Int × Unit))) (y0 : (List Int)) : Prop :=
  seq.1 ∧ Λ1 (List.replicate 1 ([] : List Int)) 0
def cAppSeq_1 (Λ1 : (List (List Int)) → Nat → Prop) (seq : (Prop × List (Int × Unit))) (y0 : (List Int))  (s_1 : (List (List Int))) (k_1 : Nat) : Prop :=
  (∀ e1 : (Int × Unit), seq.2[k_1]? = some e1 → (List.length (List.getD s_1 0 ([] : List Int)) + List.length [e1.1] ≤ 4294967296 ∧ (0 = 0 ∧ Λ1 (List.set s_1 0 ((List.getD s_1 0 ([] : List Int)) ++ [e1.1])) (k_1 + 1)))) ∧ (List.length seq.2 ≤ k_1 → (List.getD s_1 0 ([] : List Int)) = y0)
theorem cAppSeq_law (h : ∀ (seq : (Prop × List (Int × Unit))), cAppSeq.A.wf (seq, ()) → (seq.1 ∧ seq.2.length ≤ 1000000) → ∀ (Λ1 : (List (List Int)) → Nat → Prop), (∀ (s_1 : (List (List Int))) (k_1 : Nat), cAppSeq_1 Λ1 seq (seq.2.map fun v' => v'.1) s_1 k_1 → Λ1 s_1 k_1) → cAppSeq_0 Λ1 seq (seq.2.map fun v' => v'.1)) : NilF Go.Proofs.Try.prog 120 cAppSeq := by
  refine lawN (X := { subs := [], frz := [], U := [], mul := [], nst := [2], nls := [], itf := none, inp := [], arrs := [] }) (hX := xok0 _ trivial) (Γ := []) (Θ := Th) (n := 13) [([1, 0, 1, 0], ⟨[(2, true), (4, true)], [(2, true), (4, true), (4000000, true)]⟩)] trivial (by kernel_rfl) th_ok mix_ok Go.Proofs.Try.func120 (by kernel_rfl) ?_
  intro x hw hp Λ hC
  have h0 := h x.1 hw hp (fun s_1 k_1 => Λ [1, 0, 1, 0] ([(2, .ptr 2 0 [.i 0]), (4, .own 4 0)], [(2, .nl true .int s_1 0 none), (4, .sl true .int ([] : List Int)), (4000000, .rg false (.cons .int .nil) x.1.2 k_1)])) (fun s_1 k_1 hb => hC [1, 0, 1, 0] ([(2, .ptr 2 0 [.i 0]), (4, .own 4 0)], [(2, .nl true .int s_1 0 none), (4, .sl true .int ([] : List Int)), (4000000, .rg false (.cons .int .nil) x.1.2 k_1)]) (Eq.mpr (by kernel_rfl) hb))
  exact Eq.mpr (by kernel_rfl) h0
theorem cAppSeq_ok : FunOK Go.Proofs.Try.prog 120 ∧ NilF Go.Proofs.Try.prog 120 cAppSeq := by
  refine ⟨funB_ok (by kernel_rfl), cAppSeq_law ?_⟩
  intro seq hw hp Λ1 h1
  unfold cAppSeq_0
  obtain ⟨p1, p2⟩ := hp
  refine ⟨p1, ?_⟩
  refine upto (n := seq.2.length) (Q := fun k => Λ1 [(seq.2.take k).map fun v' => v'.1] k) ?_ ?_ 0 (Nat.zero_le _)
  · apply h1; unfold cAppSeq_1
    refine ⟨fun e he => ?_, fun _ => ?_⟩
    · rw [List.getElem?_eq_none (Nat.le_refl _)] at he; cases he
    · rw [List.take_length]; rfl
  · intro k hk ih
    apply h1; unfold cAppSeq_1
    refine ⟨fun e he => ?_, fun h => absurd h (by omega)⟩
    have h2 : (seq.2.take (k + 1)).map (fun v' => v'.1) = (seq.2.take k).map (fun v' => v'.1) ++ [e.1] := by
      rw [List.take_add_one, he, List.map_append]; rfl
    rw [h2] at ih
    refine ⟨?_, rfl, ih⟩
    show ((seq.2.take k).map fun v' => v'.1).length + 1 ≤ 4294967296
    rw [List.length_map, List.length_take]
    omega
abbrev cCollect : Con := { A := (.cons (.seq false (.cons .int .nil)) .nil), R := (.cons (.osl .int) .nil), pre := fun x => x.1.1 ∧ x.1.2.length ≤ 1000000, F := fun x => (x.1.2.map fun v' => v'.1, ()) }
def cCollect_0  (seq : (Prop × List (Int × Unit))) (y0 : (List Int)) : Prop :=
  (seq.1 ∧ seq.2.length ≤ 1000000) ∧ (seq.2.map fun v' => v'.1) = y0
theorem cCollect_law (h : ∀ (seq : (Prop × List (Int × Unit))), cCollect.A.wf (seq, ()) → (seq.1 ∧ seq.2.length ≤ 1000000) → cCollect_0  seq (seq.2.map fun v' => v'.1)) : ConOK Go.Proofs.Try.prog 117 cCollect := by
  refine lawX (X := { subs := [], frz := [], U := [], mul := [], nst := [], nls := [], itf := none, inp := [], arrs := [], nilc := [(120, cAppSeq)] }) (hX := xok0 _ trivial (h7 := ⟨cAppSeq_ok, trivial⟩)) (Γ := []) (Θ := Th) (n := 5) [] trivial (by kernel_rfl) th_ok mix_ok Go.Proofs.Try.func117 (by kernel_rfl) ?_
  intro x hw hp Λ hC
  have h0 := h x.1 hw hp  
  exact Eq.mpr (by kernel_rfl) h0
theorem cCollect_ok : ConOK Go.Proofs.Try.prog 117 cCollect := by
  refine cCollect_law ?_
  intro seq hw hp
  unfold cCollect_0
  exact ⟨hp, rfl⟩
abbrev cSortedI : Con := { A := (.cons (.seq false (.cons .int .nil)) .nil), R := (.cons (.osl .int) .nil), pre := fun x => x.1.1 ∧ x.1.2.length ≤ 1000000, F := fun x => (sortL (x.1.2.map fun v' => v'.1), ()) }
def cSortedI_0  (seq : (Prop × List (Int × Unit))) (y0 : (List Int)) : Prop :=
  (seq.1 ∧ seq.2.length ≤ 1000000) ∧ (True ∧ (sortL (seq.2.map fun v' => v'.1)) = y0)
theorem cSortedI_law (h : ∀ (seq : (Prop × List (Int × Unit))), cSortedI.A.wf (seq, ()) → (seq.1 ∧ seq.2.length ≤ 1000000) → cSortedI_0  seq (sortL (seq.2.map fun v' => v'.1))) : ConOK Go.Proofs.Try.prog 112 cSortedI := by
  refine lawX (X := { subs := [], frz := [], U := [], mul := [], nst := [], nls := [], itf := none, inp := [(118, cSortI)], arrs := [] }) (hX := xok0 _ ⟨cSortI_ok, trivial⟩) (Γ := [(117, cCollect)]) (Θ := Th) (n := 9) [] ⟨cCollect_ok, trivial⟩ (by kernel_rfl) th_ok mix_ok Go.Proofs.Try.func112 (by kernel_rfl) ?_
  intro x hw hp Λ hC
  have h0 := h x.1 hw hp  
  exact Eq.mpr (by kernel_rfl) h0
theorem cSortedI_ok : ConOK Go.Proofs.Try.prog 112 cSortedI := by
  refine cSortedI_law ?_
  intro seq hw hp
  unfold cSortedI_0
  exact ⟨hp, trivial, rfl⟩
abbrev cEqualI : Con := { A := (.cons (.sl .int) (.cons (.sl .int) .nil)), R := (.cons .bool .nil), pre := fun x => x.1.length ≤ 1000000, F := fun x => (decide (x.1 = x.2.1), ()) }
def cEqualI_0 (Λ1 : Int → Prop) (s1 : (List Int)) (s2 : (List Int)) (y0 : Bool) : Prop :=
  if ((List.length s1 : Int) != (List.length s2 : Int)) = true then (false = y0 ∧ True) else Λ1 (0 : Int)
def cEqualI_1 (Λ1 : Int → Prop) (s1 : (List Int)) (s2 : (List Int)) (y0 : Bool)  (t13_1 : Int) : Prop :=
  if (decide (t13_1 < (List.length s1 : Int))) = true then (idx t13_1 (List.length s1 : Int) ∧ (idx t13_1 (List.length s2 : Int) ∧ (if ((List.getD s1 (Int.toNat t13_1) 0) != (List.getD s2 (Int.toNat t13_1) 0)) = true then (false = y0 ∧ True) else (inI (t13_1 + (1 : Int)) ∧ Λ1 (t13_1 + (1 : Int)))))) else (true = y0 ∧ True)
theorem cEqualI_law (h : ∀ (s1 : (List Int)) (s2 : (List Int)), cEqualI.A.wf (s1, s2, ()) → (s1.length ≤ 1000000) → ∀ (Λ1 : Int → Prop), (∀ (t13_1 : Int), cEqualI_1 Λ1 s1 s2 (decide (s1 = s2)) t13_1 → Λ1 t13_1) → cEqualI_0 Λ1 s1 s2 (decide (s1 = s2))) : ConOK Go.Proofs.Try.prog 111 cEqualI := by
  refine lawL (Γ := []) (Θ := Th) (n := 26) [([1, 1, 0, 1, 0], ⟨[(0, false), (1, false), (12, true), (13, true)], []⟩)] trivial (by kernel_rfl) th_ok mix_ok Go.Proofs.Try.func111 (by kernel_rfl) ?_
  intro x hw hp Λ hC
  have h0 := h x.1 x.2.1 hw hp (fun t13_1 => Λ [1, 1, 0, 1, 0] ([(0, .d false (.sl .int) x.1), (1, .d false (.sl .int) x.2.1), (12, .d true .int (List.length x.1 : Int)), (13, .d true .int t13_1)], [])) (fun t13_1 hb => hC [1, 1, 0, 1, 0] ([(0, .d false (.sl .int) x.1), (1, .d false (.sl .int) x.2.1), (12, .d true .int (List.length x.1 : Int)), (13, .d true .int t13_1)], []) (Eq.mpr (by kernel_rfl) hb))
  exact Eq.mpr (by kernel_rfl) h0
theorem cEqualI_ok : ConOK Go.Proofs.Try.prog 111 cEqualI := by
  refine cEqualI_law ?_
  intro s1 s2 hw hp Λ1 h1
  unfold cEqualI_0
  by_cases hl : s1.length = s2.length
  · rw [if_neg (by simp [hl])]
    refine upto (n := s1.length) (Q := fun i => s1.take i = s2.take i → Λ1 i) ?_ ?_ 0 (Nat.zero_le _) rfl
    · intro ha
      rw [List.take_length, List.take_of_length_le (by omega)] at ha
      apply h1; unfold cEqualI_1; rw [if_neg (by simp)]
      exact ⟨by simp [ha], trivial⟩
    · intro i hi ih ha
      apply h1; unfold cEqualI_1; rw [if_pos (by simpa using hi), Int.toNat_natCast]
      refine ⟨idx_nat hi, idx_nat (by omega), ?_⟩
      by_cases hv : List.getD s1 i 0 = List.getD s2 i 0
      · rw [hv, if_neg (by simp)]
        exact ⟨inI_succ hi (by omega), ih (take_eq_next 0 hi hl ha hv)⟩
      · rw [if_pos (by rw [bne_iff_ne]; exact hv)]
        exact ⟨by simp [ne_at 0 hv], trivial⟩
  · rw [if_pos (by simp; omega)]
    exact ⟨by simp; exact fun e => hl (by rw [e]), trivial⟩
def ordT (t : Ste) (l : List Int) : Int := if validT t = 0 then argErr (decide (sortL l = nums t.length)) else validT t
theorem ordT_ok {t : Ste} {l : List Int} (h : ordT t l = 0) : okT t ∧ inT t l ∧ l.length = t.length ∧ l.Perm (nums t.length) := by
  unfold ordT at h
  split at h
  · rename_i h0
    rw [argErr_zero, decide_eq_true_eq] at h
    have hp : l.Perm (nums t.length) := h ▸ (sortL_perm l).symm
    exact ⟨validT_ok.1 h0, fun r hr => nums_mem.1 (hp.mem_iff.1 hr), by rw [hp.length_eq, nums_len], hp⟩
  · rename_i h0; exact absurd h h0
abbrev cOrdered : Con := { A := (.cons (.sl (.sl .int)) (.cons (.sl .int) .nil)), R := (.cons .int .nil), pre := fun x => x.2.1.length ≤ 1000000, F := fun x => (ordT x.1 x.2.1, ()) }
def cOrdered_0  (t : (List (List Int))) (order : (List Int)) (y0 : Int) : Prop :=
  True ∧ (if ((validT t) != (0 : Int)) = true then ((validT t) = y0 ∧ True) else (True ∧ ((((True, order.map fun v' => (v', ()))).1 ∧ ((True, order.map fun v' => (v', ()))).2.length ≤ 1000000) ∧ ((0 ≤ (List.length t : Int) ∧ (List.length t : Int) ≤ 4294967296) ∧ ((sortL (((True, order.map fun v' => (v', ()))).2.map fun v' => v'.1)).length ≤ 1000000 ∧ (if (!(decide ((sortL (((True, order.map fun v' => (v', ()))).2.map fun v' => v'.1)) = (nums (List.length t : Int).toNat)))) = true then ((1 : Int) = y0 ∧ True) else ((0 : Int) = y0 ∧ True)))))))
theorem cOrdered_law (h : ∀ (t : (List (List Int))) (order : (List Int)), cOrdered.A.wf (t, order, ()) → (order.length ≤ 1000000) → cOrdered_0  t order (ordT t order)) : ConOK Go.Proofs.Try.prog 93 cOrdered := by
  refine lawL (Γ := [(67, cAll8), (111, cEqualI), (112, cSortedI), (35, cVal8), (113, cVals)]) (Θ := Th) (n := 19) [] ⟨cAll8_ok, cEqualI_ok, cSortedI_ok, cVal8_ok, cVals_ok, trivial⟩ (by kernel_rfl) th_ok mix_ok Go.Proofs.Try.func93 (by kernel_rfl) ?_
  intro x hw hp Λ hC
  have h0 := h x.1 x.2.1 hw hp  
  exact Eq.mpr (by kernel_rfl) h0
theorem cOrdered_ok : ConOK Go.Proofs.Try.prog 93 cOrdered := by
  refine cOrdered_law ?_
  intro t order hw hp
  unfold cOrdered_0
  refine ⟨trivial, ?_⟩
  by_cases h0 : validT t = 0
  · rw [if_neg (by simp [h0])]
    have ht := validT_ok.1 h0
    have := ht.1
    have e : sortL (((True, order.map fun v' => (v', ())) : Prop × List (Int × Unit)).2.map fun v' => v'.1) = sortL order := by rw [map_tup]
    refine ⟨trivial, ⟨trivial, by simpa using hp⟩, ⟨by omega, by omega⟩, ?_, ?_⟩
    · rw [e, sortL_len]; exact hp
    · rw [e, Int.toNat_natCast]
      have hr : ordT t order = argErr (decide (sortL order = nums t.length)) := by unfold ordT; rw [if_pos h0]
      rw [hr]
      cases hd : decide (sortL order = nums t.length)
      · rw [if_pos (by rfl)]; exact ⟨rfl, trivial⟩
      · rw [if_neg (by simp)]; exact ⟨rfl, trivial⟩
  · rw [if_pos (by simp [h0])]
    refine ⟨?_, trivial⟩
    unfold ordT; rw [if_neg h0]
abbrev cWaitS : Con := { A := (.cons (.sl (.sl .int)) (.cons (.sl .int) .nil)), R := (.cons .int (.cons .int .nil)), pre := fun x => x.2.1.length ≤ 1000000, F := fun x => ((if ordT x.1 x.2.1 = 0 then waitL x.1 x.2.1 else 0), ordT x.1 x.2.1, ()) }
def cWaitS_0  (t : (List (List Int))) (order : (List Int)) (y0 : Int) (y1 : Int) : Prop :=
  order.length ≤ 1000000 ∧ (if ((ordT t order) != (0 : Int)) = true then ((0 : Int) = y0 ∧ (ordT t order) = y1 ∧ True) else ((okT t ∧ inT t order ∧ order.length ≤ 100) ∧ ((waitL t order) = y0 ∧ (0 : Int) = y1 ∧ True)))
theorem cWaitS_law (h : ∀ (t : (List (List Int))) (order : (List Int)), cWaitS.A.wf (t, order, ()) → (order.length ≤ 1000000) → cWaitS_0  t order (if ordT t order = 0 then waitL t order else 0) (ordT t order)) : ConOK Go.Proofs.Try.prog 45 cWaitS := by
  refine lawL (Γ := [(93, cOrdered), (88, cWait)]) (Θ := Th) (n := 16) [] ⟨cOrdered_ok, cWait_ok, trivial⟩ (by kernel_rfl) th_ok mix_ok Go.Proofs.Try.func45 (by kernel_rfl) ?_
  intro x hw hp Λ hC
  have h0 := h x.1 x.2.1 hw hp  
  exact Eq.mpr (by kernel_rfl) h0
theorem cWaitS_ok : ConOK Go.Proofs.Try.prog 45 cWaitS := by
  refine cWaitS_law ?_
  intro t order hw hp
  unfold cWaitS_0
  refine ⟨hp, ?_⟩
  by_cases h : ordT t order = 0
  · rw [if_neg (by simp [h]), if_pos h, h]
    obtain ⟨h1, h2, h3, _⟩ := ordT_ok h
    have := h1.1
    exact ⟨⟨h1, h2, by omega⟩, rfl, rfl, trivial⟩
  · rw [if_pos (by simp [h]), if_neg h]
    exact ⟨rfl, rfl, trivial⟩
end Go.Tk
