/- Layer 1: what a line reads; lists from behind; sorting (contracts for TopCodes). -/
import Derived.Test.YtgimfjbnbnnjeaaC1r
import Derived.Test.YtgimfjbnbnnjeaaC1q
import Derived.Test.YtgimfjbnbnnjeaaP1x
import Derived.Test.YtgimfjbnbnnjeaaEngW
import Derived.Shelf.SortM.Plain
import Derived.Shelf.SortM.SortNone
import Derived.Ground.SlgmProg
import Derived.Shelf.SlicesG.CompactI
import Derived.Shelf.SlicesG.Reverse
import Derived.Shelf.SlGeneric
import Derived.Ground.SlgnProg
set_option linter.unusedSimpArgs false
set_option linter.unusedVariables false
set_option linter.unnecessarySimpa false
namespace Go.Proofs
open Go.RowKit Go.Sort Go.Shelf
shelf_lay_g SlLaysM.n5 Slgm 5 at Try 43 as Try.sortI
shelf_lay_g SlLaysN.n43 Slgn 43 at Try 44 as Try.compactI
shelf_lay_g SlLaysN.n35 Slgn 35 at Try 31 as Try.reverseI
end Go.Proofs
namespace Go.Tk
open Go Go.RowKit
/-! ### slices.Sort at numbers -/
theorem repL_ints {P : Program} {w : World} {S : Nat → Prop} : ∀ {xs : List Int} {cs : List Value}, repL ((reps P .int).c w S) xs cs → cs = xs.map (Value.int .i64) ∧ ∀ x ∈ xs, inI x
  | [], cs, h => ⟨h, by simp⟩
  | x :: xs, _, ⟨c1, c2, rfl, h1, h2⟩ => by
    obtain ⟨e, hi⟩ := h1
    obtain ⟨e2, hi2⟩ := repL_ints h2
    subst e; subst e2
    refine ⟨rfl, fun y hy => ?_⟩
    rcases List.mem_cons.1 hy with rfl | hy
    · exact hi
    · exact hi2 y hy
theorem repL_of_ints {P : Program} {w : World} {S : Nat → Prop} : ∀ {xs : List Int}, (∀ x ∈ xs, inI x) → repL ((reps P .int).c w S) xs (xs.map (Value.int .i64))
  | [], _ => rfl
  | x :: xs, h => ⟨[.int .i64 x], xs.map (Value.int .i64), rfl, ⟨rfl, h x (by simp)⟩, repL_of_ints fun y hy => h y (by simp [hy])⟩

theorem grow_heap_lt {w : World} {os : Array Obj} {i : Nat} (h : i < w.heap.size) : (Sort.grow w os).heap[i]? = w.heap[i]? := by
  unfold Sort.grow
  exact Array.getElem?_append_left h

theorem putRow_heap {w : World} {n b off : Nat} {xs ys : List Int} {cur : Array Value} {e : TypeId} (h : w.heap[b]? = some (.cells cur e (0, 0))) (hl : ys.length = xs.length) (hx : (cur.toList.drop off).take (xs.length * 1) = xs.map (Value.int .i64)) :
    ∃ cur' : Array Value, (Sort.putRow (Value.int .i64) (Sort.ahead w n) b off ys.toArray).heap[b]? = some (.cells cur' e (0, 0)) ∧ cur'.size = cur.size ∧ (cur'.toList.drop off).take (ys.length * 1) = ys.map (Value.int .i64) := by
  refine ⟨Sort.putCells (Value.int .i64) off ys.toArray cur, ?_, by simp [Sort.putCells], ?_⟩
  · unfold Sort.putRow Sort.mapBlock
    have hb : (Sort.ahead w n).heap[b]? = some (.cells cur e (0, 0)) := h
    rw [Array.getElem?_modify, if_pos rfl, hb]
    rfl
  · have hlen : off + xs.length ≤ cur.size ∨ xs = [] := by
      cases xs with
      | nil => exact .inr rfl
      | cons x xs =>
        left
        have := congrArg List.length hx
        simp only [List.length_take, List.length_drop, List.length_map, Array.length_toList, List.length_cons] at this ⊢
        omega
    apply List.ext_getElem?
    intro i
    rw [List.getElem?_take, List.getElem?_map]
    by_cases hi : i < ys.length
    · rw [if_pos (by omega), List.getElem?_drop, Array.getElem?_toList]
      have hsz : off + i < cur.size := by
        rcases hlen with hlen | rfl
        · omega
        · rw [List.length_nil] at hl; omega
      unfold Sort.putCells
      rw [Array.getElem?_mapIdx, Array.getElem?_eq_getElem hsz]
      simp [hi]
    · rw [if_neg (by omega), List.getElem?_eq_none (by omega)]
      rfl

abbrev cSortI : InC := { a := .int, B := .nil, pre := fun xs x => True, F := fun xs x => sortL xs, ret := false }
theorem cSortI_ok : FunOK Go.Proofs.Try.prog 43 ∧ InF Go.Proofs.Try.prog 43 cSortI := by
  refine ⟨funB_ok (by kernel_rfl), ?_⟩
  intro w S xs x v ob vs hown hnS hv _
  obtain ⟨rfl, _⟩ : vs = [] ∧ _ := hv
  rcases hown with ⟨rfl, rfl, rfl⟩ | ⟨b, off, cap, cur, e, rfl, rfl, _, h4, h5, h6, h7, h8⟩
  · refine (Go.Proofs.AnyM.slices_Sort_int_none Go.Proofs.Try.sortI none 0 w).mono ?_
    rintro en w' ⟨rfl, rfl⟩
    exact ⟨.slice none 0 0, none, ⟨⟨_, rfl⟩, rfl, rfl⟩, .inl ⟨rfl, by simp [sortL], rfl⟩, fun b o e => (by cases e), ⟨rfl, rfl, rfl, Nat.le_refl _, fun _ _ _ => rfl⟩⟩
  · change List Int at xs
    obtain ⟨hx, hin⟩ := repL_ints h8
    have hx : (cur.toList.drop off).take (xs.length * 1) = xs.map (Value.int .i64) := hx
    have hb : b < w.heap.size := (Array.getElem?_eq_some_iff.1 h4).1
    have hH : Sort.Holds (Value.int .i64) w b off xs.toArray := by
      intro j hj
      have hj : j < xs.length := by simpa using hj
      constructor
      · rw [cell_of_row w b (off + j) cur e (0, 0) h4]
        have h1 := congrArg (fun l => l[j]?) hx
        simp only [List.getElem?_take, List.getElem?_drop, List.getElem?_map] at h1
        rw [if_pos (by omega), List.getElem?_eq_getElem hj] at h1
        rw [← Array.getElem?_toList, h1]
        simp [hj]
      · unfold World.frozen?
        rw [h4]
        simp
    refine (Go.Proofs.AnyM.slices_Sort_int Go.Proofs.Try.sortI b off cap xs w hH hb (by omega)).mono ?_
    rintro en w' ⟨rfl, n, os, hw'⟩
    have hw' : w' = Sort.grow (Sort.putRow (Value.int .i64) (Sort.ahead w n) b off (sortL xs).toArray) os := hw'
    subst hw'
    obtain ⟨cur', c1, c2, c3⟩ := putRow_heap (n := n) h4 (sortL_len xs) hx
    have hsz : (Sort.putRow (Value.int .i64) (Sort.ahead w n) b off (sortL xs).toArray).heap.size = w.heap.size := by
      rw [Sort.size_putRow]; rfl
    have hw' : (Sort.grow (Sort.putRow (Value.int .i64) (Sort.ahead w n) b off (sortL xs).toArray) os).heap[b]? = some (.cells cur' e (0, 0)) := by
      rw [grow_heap_lt (by rw [hsz]; exact hb)]; exact c1
    have hl : (sortL xs).length = xs.length := sortL_len xs
    refine ⟨.slice (some ⟨b, off, none⟩) xs.length cap, some (b, off), ⟨⟨_, rfl⟩, rfl, rfl⟩, .inr ⟨b, off, cap, cur', e, rfl, ?_, trivial, hw', ?_, ?_, ?_, ?_⟩, fun b' o e => .inr ⟨o, e⟩, ?_⟩
    · show _ = Value.slice _ (sortL xs).length cap
      rw [hl]
    · show (sortL xs).length ≤ cap
      rw [hl]; exact h5
    · show (sortL xs).length ≤ _ ∧ _
      rw [hl]; exact h6
    · rw [c2]; exact h7
    · show repL _ (sortL xs) ((cur'.toList.drop off).take ((sortL xs).length * 1))
      rw [c3]
      exact repL_of_ints fun y hy => hin y ((sortL_perm xs).mem_iff.1 hy)
    · refine ⟨rfl, rfl, rfl, ?_, fun i hi hne => ?_⟩
      · unfold Sort.grow
        rw [Array.size_append, hsz]; omega
      · rw [grow_heap_lt (by rw [hsz]; exact hi)]
        have hne : b ≠ i := fun h => hne off (by rw [h])
        unfold Sort.putRow Sort.mapBlock
        show (Array.modify w.heap b _)[i]? = _
        rw [Array.getElem?_modify, if_neg hne]
theorem holds_ints {w : World} {b off : Nat} {cur : Array Value} {e : TypeId} {xs : List Int} (h4 : w.heap[b]? = some (.cells cur e (0, 0))) (hx : (cur.toList.drop off).take (xs.length * 1) = xs.map (Value.int .i64)) : Sort.Holds (Value.int .i64) w b off xs.toArray := by
  intro j hj
  have hj : j < xs.length := by simpa using hj
  constructor
  · rw [cell_of_row w b (off + j) cur e (0, 0) h4]
    have h1 := congrArg (fun l => l[j]?) hx
    simp only [List.getElem?_take, List.getElem?_drop, List.getElem?_map] at h1
    rw [if_pos (by omega), List.getElem?_eq_getElem hj] at h1
    rw [← Array.getElem?_toList, h1]
    simp [hj]
  · unfold World.frozen?
    rw [h4]
    simp
theorem compL_lib {s : List Int} (h : s.length ≤ 2) : Go.Lib.compact s = compL s := by
  match s, h with
  | [], _ => rfl
  | [a], _ => rfl
  | [a, b], _ =>
    by_cases e : b = a
    · subst e
      show Go.Lib.compactUpTo #[b, b] (0 + 1 + 1) = _
      rw [Go.Lib.compactUpTo_succ, Go.Lib.compactUpTo_succ]
      simp [Go.Lib.compactUpTo, Go.Lib.keeps, compL]
    · show Go.Lib.compactUpTo #[a, b] (0 + 1 + 1) = _
      rw [Go.Lib.compactUpTo_succ, Go.Lib.compactUpTo_succ]
      simp [Go.Lib.compactUpTo, Go.Lib.keeps, compL, e]
abbrev cCompI : InC := { a := .int, B := .nil, pre := fun xs x => xs.length ≤ 2, F := fun xs x => compL xs, ret := true }
theorem cCompI_ok : FunOK Go.Proofs.Try.prog 44 ∧ InF Go.Proofs.Try.prog 44 cCompI := by
  refine ⟨funB_ok (by kernel_rfl), ?_⟩
  rintro w S xs x v ob vs hown hnS hv hp
  change List Int at xs
  have hp : xs.length ≤ 2 := hp
  obtain ⟨rfl, _⟩ : vs = [] ∧ _ := hv
  rcases hown with ⟨rfl, rfl, rfl⟩ | ⟨b, off, cap, cur, e, rfl, rfl, _, h4, h5, h6, h7, h8⟩
  · refine (Go.Proofs.AnyG.slices_Compact_int_empty Go.Proofs.Try.compactI none 0 w).mono ?_
    rintro en w' ⟨rfl, rfl⟩
    exact ⟨.slice none 0 0, none, rfl, .inl ⟨rfl, by simp [compL], rfl⟩, fun b o e => (by cases e), ⟨rfl, rfl, rfl, Nat.le_refl _, fun _ _ _ => rfl⟩⟩
  · obtain ⟨hx, hin⟩ := repL_ints h8
    have hx : (cur.toList.drop off).take (xs.length * 1) = xs.map (Value.int .i64) := hx
    have hb : b < w.heap.size := (Array.getElem?_eq_some_iff.1 h4).1
    have hH := holds_ints h4 hx
    have hlc := compL_len xs
    have hlen : (compL xs ++ List.replicate (xs.length - (compL xs).length) 0).length = xs.length := by
      rw [List.length_append, List.length_replicate]; omega
    refine (Go.Proofs.AnyG.slices_Compact_int Go.Proofs.Try.compactI b off cap xs w hH (by omega) (by simpa using h5)).mono ?_
    rintro en w' ⟨rfl, n, hw'⟩
    rw [compL_lib hp] at hw' ⊢
    subst hw'
    obtain ⟨cur', c1, c2, c3⟩ := putRow_heap (n := n) h4 hlen hx
    have hcells : (cur'.toList.drop off).take ((compL xs).length * 1) = (compL xs).map (Value.int .i64) := by
      have h1 := congrArg (List.take (compL xs).length) c3
      have hmin : min (compL xs).length ((compL xs ++ List.replicate (xs.length - (compL xs).length) 0).length * 1) = (compL xs).length * 1 := by rw [hlen]; omega
      rw [List.take_take, hmin, List.map_append, List.take_left' (by rw [List.length_map])] at h1
      exact h1
    refine ⟨.slice (some ⟨b, off, none⟩) (compL xs).length cap, some (b, off), rfl, .inr ⟨b, off, cap, cur', e, rfl, rfl, trivial, c1, ?_, ?_, ?_, ?_⟩, fun b' o e => .inr ⟨o, e⟩, ?_⟩
    · show (compL xs).length ≤ cap
      omega
    · exact ⟨show (compL xs).length ≤ 140737488355328 by omega, h6.2⟩
    · rw [c2]; exact h7
    · show repL _ (compL xs) ((cur'.toList.drop off).take ((compL xs).length * 1))
      rw [hcells]
      exact repL_of_ints fun y hy => hin y ((compL_mem xs y).1 hy)
    · refine ⟨rfl, rfl, rfl, ?_, fun i hi hne => ?_⟩
      · rw [Sort.size_putRow]; exact Nat.le_refl _
      · have hne : b ≠ i := fun h => hne off (by rw [h])
        unfold Sort.putRow Sort.mapBlock
        show (Array.modify w.heap b _)[i]? = _
        rw [Array.getElem?_modify, if_neg hne]
abbrev cReads : Con := { A := (.cons tL .nil), R := (.cons (.osl .int) .nil), pre := fun x => validLine x.1 = true, F := fun x => (readsL x.1, ()) }
def cReads_0  (l : Lin) (y0 : (List Int)) : Prop :=
  True ∧ (idx l.1 (8 : Int) ∧ ((0 ≤ (0 : Int) ∧ (0 : Int) ≤ (List.getD allOps (Int.toNat l.1) tOpn.dflt).1 ∧ (List.getD allOps (Int.toNat l.1) tOpn.dflt).1 ≤ (List.getD allOps (Int.toNat l.1) tOpn.dflt).1 ∧ (List.getD allOps (Int.toNat l.1) tOpn.dflt).1 ≤ (List.length [l.2.2.1, l.2.2.2.1] : Int)) ∧ (True ∧ ((sortL (List.drop (Int.toNat (0 : Int)) (List.take (Int.toNat ((List.getD allOps (Int.toNat l.1) tOpn.dflt).1)) [l.2.2.1, l.2.2.2.1]))).length ≤ 2 ∧ (compL (sortL (List.drop (Int.toNat (0 : Int)) (List.take (Int.toNat ((List.getD allOps (Int.toNat l.1) tOpn.dflt).1)) [l.2.2.1, l.2.2.2.1])))) = y0))))
theorem cReads_law (h : ∀ (l : Lin), cReads.A.wf (l, ()) → (validLine l = true) → cReads_0  l (readsL l)) : ConOK Go.Proofs.Try.prog 30 cReads := by
  refine lawX (X := { subs := [], frz := [], U := [], mul := [], nst := [], nls := [], itf := none, inp := [(44, cCompI), (43, cSortI)], arrs := [] }) (hX := xok0 _ ⟨cCompI_ok, cSortI_ok, trivial⟩) (Γ := [(39, cOperations)]) (Θ := Th) (n := 22) [] ⟨cOperations_ok, trivial⟩ (by kernel_rfl) th_ok mix_ok Go.Proofs.Try.func30 (by kernel_rfl) ?_
  intro x hw hp Λ hC
  have h0 := h x.1 hw hp  
  exact Eq.mpr (by kernel_rfl) h0
theorem cReads_ok : ConOK Go.Proofs.Try.prog 30 cReads := by
  refine cReads_law ?_
  intro l hw hp
  unfold cReads_0
  have hr := line_regs hp
  have e : (List.getD allOps (Int.toNat l.1) tOpn.dflt).1 = (rdN l : Int) := by
    have c : l.1 = 0 ∨ l.1 = 1 ∨ l.1 = 2 ∨ l.1 = 3 ∨ l.1 = 4 ∨ l.1 = 5 ∨ l.1 = 6 ∨ l.1 = 7 := by omega
    unfold rdN
    rcases c with c | c | c | c | c | c | c | c <;> rw [c] <;> rfl
  have h2 := rdN_le l
  rw [e]
  refine ⟨trivial, ⟨by omega, by omega⟩, ⟨by omega, by omega, by omega, by simp only [List.length_cons, List.length_nil]; omega⟩, trivial, ?_⟩
  have e2 : List.drop (Int.toNat 0) (List.take (Int.toNat (rdN l : Int)) [l.2.2.1, l.2.2.2.1]) = argsL l := by rw [Int.toNat_natCast]; rfl
  rw [e2]
  exact ⟨by rw [sortL_len]; exact argsL_len l, rfl⟩
abbrev cWritesP : Con := { A := (.cons tL .nil), R := (.cons .int (.cons .bool (.cons .int .nil))), pre := fun x => True, F := fun x => ((if validLine x.1 = true ∧ writes x.1 = true then x.1.2.1 else 0), (validLine x.1 && writes x.1), argErr (validLine x.1), ()) }
def cWritesP_0  (l : Lin) (y0 : Int) (y1 : Bool) (y2 : Int) : Prop :=
  True ∧ (if ((argErr (validLine l)) != (0 : Int)) = true then ((0 : Int) = y0 ∧ false = y1 ∧ (argErr (validLine l)) = y2 ∧ True) else (True ∧ (((if writes l then l.2.1 else 0)) = y0 ∧ (writes l) = y1 ∧ (0 : Int) = y2 ∧ True)))
theorem cWritesP_law (h : ∀ (l : Lin), cWritesP.A.wf (l, ()) → cWritesP_0  l (if validLine l = true ∧ writes l = true then l.2.1 else 0) (validLine l && writes l) (argErr (validLine l))) : ConOK Go.Proofs.Try.prog 10 cWritesP := by
  refine lawL (Γ := [(32, cValLine), (23, cWrites1)]) (Θ := Th) (n := 20) [] ⟨cValLine_ok, cWrites1_ok, trivial⟩ (by kernel_rfl) th_ok mix_ok Go.Proofs.Try.func10 (by kernel_rfl) ?_
  intro x hw hp Λ hC
  have h0 := h x.1 hw  
  exact Eq.mpr (by kernel_rfl) h0
theorem cWritesP_ok : ConOK Go.Proofs.Try.prog 10 cWritesP := by
  refine cWritesP_law ?_
  intro l hw
  unfold cWritesP_0
  refine ⟨trivial, ?_⟩
  cases h : validLine l
  · rw [if_pos (by rfl)]
    exact ⟨by simp, by simp, rfl, trivial⟩
  · rw [if_neg (by simp [argErr])]
    refine ⟨trivial, ?_⟩
    cases hw : writes l
    · exact ⟨by simp, rfl, rfl, trivial⟩
    · exact ⟨by simp, rfl, rfl, trivial⟩
abbrev cRevI : InC := { a := .int, B := .nil, pre := fun xs x => True, F := fun xs x => xs.reverse, ret := false }
theorem cRevI_ok : FunOK Go.Proofs.Try.prog 31 ∧ InF Go.Proofs.Try.prog 31 cRevI := by
  refine ⟨funB_ok (by kernel_rfl), ?_⟩
  intro w S xs x v ob vs hown hnS hv _
  change List Int at xs
  obtain ⟨rfl, _⟩ : vs = [] ∧ _ := hv
  rcases hown with ⟨rfl, rfl, rfl⟩ | ⟨b, off, cap, cur, e, rfl, rfl, _, h4, h5, h6, h7, h8⟩
  · refine (Go.Proofs.AnyG.slices_Reverse_int_empty Go.Proofs.Try.reverseI none 0 w).mono ?_
    rintro en w' ⟨rfl, rfl⟩
    exact ⟨.slice none 0 0, none, ⟨⟨_, rfl⟩, rfl, rfl⟩, .inl ⟨rfl, by simp, rfl⟩, fun b o e => (by cases e), ⟨rfl, rfl, rfl, Nat.le_refl _, fun _ _ _ => rfl⟩⟩
  · obtain ⟨hx, hin⟩ := repL_ints h8
    have hx : (cur.toList.drop off).take (xs.length * 1) = xs.map (Value.int .i64) := hx
    have hH := holds_ints h4 hx
    refine (Go.Proofs.AnyG.slices_Reverse_int Go.Proofs.Try.reverseI b off cap xs w hH (by have := h6.1; omega)).mono ?_
    rintro en w' ⟨rfl, n, hw'⟩
    subst hw'
    have hl : xs.reverse.length = xs.length := List.length_reverse
    obtain ⟨cur', c1, c2, c3⟩ := putRow_heap (n := n) h4 hl hx
    refine ⟨.slice (some ⟨b, off, none⟩) xs.length cap, some (b, off), ⟨⟨_, rfl⟩, rfl, rfl⟩, .inr ⟨b, off, cap, cur', e, rfl, ?_, trivial, c1, ?_, ?_, ?_, ?_⟩, fun b' o e => .inr ⟨o, e⟩, ?_⟩
    · show _ = Value.slice _ (xs.reverse).length cap
      rw [hl]
    · show (xs.reverse).length ≤ cap
      rw [hl]; exact h5
    · show (xs.reverse).length ≤ _ ∧ _
      rw [hl]; exact h6
    · rw [c2]; exact h7
    · show repL _ (xs.reverse) ((cur'.toList.drop off).take ((xs.reverse).length * 1))
      rw [c3]
      exact repL_of_ints fun y hy => hin y (List.mem_reverse.1 hy)
    · refine ⟨rfl, rfl, rfl, ?_, fun i hi hne => ?_⟩
      · rw [Sort.size_putRow]; exact Nat.le_refl _
      · have hne : b ≠ i := fun h => hne off (by rw [h])
        unfold Sort.putRow Sort.mapBlock
        show (Array.modify w.heap b _)[i]? = _
        rw [Array.getElem?_modify, if_neg hne]
def bkV (xs : List Vst) : Nat → List (Int × Vst × Unit)
  | 0 => []
  | n + 1 => ((n : Int), xs.getD n tVis.dflt, ()) :: bkV xs n
theorem bkV_len (h : List Vst) : ∀ n, (bkV h n).length = n
  | 0 => rfl
  | n + 1 => by unfold bkV; rw [List.length_cons, bkV_len h n]
theorem bkV_get (h : List Vst) : ∀ n k, k < n → (bkV h n)[k]? = some (((n - 1 - k : Nat) : Int), h.getD (n - 1 - k) tVis.dflt, ())
  | 0, _, hk => by omega
  | n + 1, 0, hk => by unfold bkV; simp
  | n + 1, k + 1, hk => by
    unfold bkV
    rw [List.getElem?_cons_succ, bkV_get h n k (by omega), show n + 1 - 1 - (k + 1) = n - 1 - k by omega]
abbrev cBackV1 : Con := { A := (.cons (.ref (.sl tVis)) .nil), R := .seq false (.cons .int (.cons tVis .nil)), pre := fun _ => True, F := fun x => ((True, bkV x.1 (x.1).length) : Prop × List (Int × Vis × Unit)) }
def cBackV1_0 (Λ1 : Int → Nat → Prop) (c0 : (List Vis)) (y0 : List (Int × Vis × Unit)) : Prop :=
  inI ((List.length c0 : Int) - (1 : Int)) ∧ Λ1 ((List.length c0 : Int) - (1 : Int)) 0
def cBackV1_1 (Λ1 : Int → Nat → Prop) (c0 : (List Vis)) (y0 : List (Int × Vis × Unit))  (i_1 : Int) (k_1 : Nat) : Prop :=
  if (decide (i_1 ≥ (0 : Int))) = true then (idx i_1 (List.length c0 : Int) ∧ (y0[k_1]? = some (i_1, (List.getD c0 (Int.toNat i_1) tVis.dflt), ()) ∧ (inI (i_1 - (1 : Int)) ∧ Λ1 (i_1 - (1 : Int)) (k_1 + 1)) ∧ True)) else k_1 = List.length y0
theorem cBackV1_law (h : ∀ (c0 : (List Vis)), cBackV1.A.wf (c0, ()) → ((True, bkV c0 (c0).length)).1 → ∀ (Λ1 : Int → Nat → Prop), (∀ (i_1 : Int) (k_1 : Nat), cBackV1_1 Λ1 c0 ((True, bkV c0 (c0).length)).2 i_1 k_1 → Λ1 i_1 k_1) → cBackV1_0 Λ1 c0 ((True, bkV c0 (c0).length)).2) : ConOK Go.Proofs.Try.prog 42 cBackV1 := by
  refine lawIt (X := { subs := [], frz := [], U := [], mul := [], nst := [], nls := [], itf := some false, inp := [], arrs := [] }) (hX := xok0 _ trivial) (Γ := []) (Θ := Th) (n := 19) [([1, 0], ⟨[(0, true), (1, false), (3, true)], [(5000000, true)]⟩)] trivial (by kernel_rfl) th_ok mix_ok Go.Proofs.Try.func42 (by kernel_rfl) ?_
  intro x hw hp Λ hC
  have h0 := h x.1 hw hp (fun i_1 k_1 => Λ [1, 0] ([(0, .yld), (1, .d false (.ref (.sl tVis)) x.1), (3, .d true .int i_1)], [(5000000, .it (.cons .int (.cons tVis .nil)) (cBackV1.F x).2 k_1)])) (fun i_1 k_1 hb => hC [1, 0] ([(0, .yld), (1, .d false (.ref (.sl tVis)) x.1), (3, .d true .int i_1)], [(5000000, .it (.cons .int (.cons tVis .nil)) (cBackV1.F x).2 k_1)]) (Eq.mpr (by kernel_rfl) hb))
  exact Eq.mpr (by kernel_rfl) h0
theorem cBackV1_ok : ConOK Go.Proofs.Try.prog 42 cBackV1 := by
  refine cBackV1_law ?_
  intro c0 hw hp Λ1 h1
  unfold cBackV1_0
  have hlc : c0.length ≤ 140737488355328 := hw.1.1
  refine ⟨by unfold inI; omega, ?_⟩
  have key := upto (n := c0.length) (Q := fun k => Λ1 ((c0.length : Int) - 1 - k) k) ?_ ?_ 0 (Nat.zero_le _)
  · simpa using key
  · apply h1; unfold cBackV1_1
    rw [if_neg (by rw [decide_eq_true_eq]; omega), bkV_len]
  · intro k hk ih
    apply h1; unfold cBackV1_1
    rw [if_pos (by rw [decide_eq_true_eq]; omega), bkV_get c0 _ k hk]
    have e : ((c0.length : Int) - 1 - k).toNat = c0.length - 1 - k := by omega
    rw [e]
    refine ⟨⟨by omega, by omega⟩, ?_, ⟨by unfold inI; omega, ?_⟩, trivial⟩
    · congr 2; omega
    · rw [show ((c0.length : Int) - 1 - k - 1) = (c0.length : Int) - 1 - ((k + 1 : Nat) : Int) by omega]; exact ih
abbrev cBackV : Con := { A := (.cons (.sl tVis) .nil), R := (.cons (.seq false (.cons .int (.cons tVis .nil))) .nil), pre := fun x => True, F := fun x => ((True, bkV x.1 (x.1).length), ()), al := true }
def cBackV_0  (s : (List Vis)) (y0 : (Prop × List (Int × Vis × Unit))) : Prop :=
  ((True, bkV s (s).length)) = y0 ∧ True
theorem cBackV_law (h : ∀ (s : (List Vis)), cBackV.A.wf (s, ()) → cBackV_0  s (True, bkV s (s).length)) : ConOK Go.Proofs.Try.prog 29 cBackV := by
  refine lawX (X := { subs := [], frz := [1], U := [], mul := [], nst := [], nls := [], itf := none, inp := [], arrs := [] }) (hX := xok0 _ trivial) (Γ := [(42, cBackV1)]) (Θ := Th) (n := 4) [] ⟨cBackV1_ok, trivial⟩ (by kernel_rfl) th_ok mix_ok Go.Proofs.Try.func29 (by kernel_rfl) ?_
  intro x hw hp Λ hC
  have h0 := h x.1 hw  
  exact Eq.mpr (by kernel_rfl) h0
theorem cBackV_ok : ConOK Go.Proofs.Try.prog 29 cBackV := by
  refine cBackV_law ?_
  intro s hw
  unfold cBackV_0
  exact ⟨rfl, trivial⟩
end Go.Tk
