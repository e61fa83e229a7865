/- suite.Best: a closure that calls itself through a variable, and changes two variables of the caller's. -/
import Derived.Test.YtmedjckknalpbaaC8z
import Derived.WalkKit
import Derived.Deep.RegionHeld3
import Derived.Deep.DrawnRows
set_option linter.unusedSimpArgs false
set_option linter.unusedVariables false
set_option linter.unnecessarySimpa false
set_option maxRecDepth 10000
set_option maxHeartbeats 4000000
namespace Go.Tk
open Go Go.RowKit
attribute [local go_sem ↓] Go.wp_at_zero Go.wp_at_succ

theorem cell_below {B : Nat} {w w' : World} {b : Nat} {v : Value} (hb : Below B w w') (h : b < B) (hc : w.cell? ⟨b, 0, none⟩ = some v) : w'.cell? ⟨b, 0, none⟩ = some v := by
  simp only [World.cell?] at hc ⊢
  rw [hb.block b h]
  exact hc
theorem lt_of_row {w : World} {b : Nat} {o : Obj} (h : w.heap[b]? = some o) : b < w.heap.size := (Array.getElem?_eq_some_iff.1 h).1
theorem w64 {n : Int} (h1 : -9223372036854775808 ≤ n) (h2 : n ≤ 9223372036854775807) : wrap64 n = n := by unfold wrap64; omega
/-- Two blocks of the caller's may change. -/
abbrev TT (pl pb : Nat) : Nat → Prop := fun b => b = pl ∨ b = pb
abbrev NT (pl pb : Nat) : Nat → Prop := fun b => b ≠ pl ∧ b ≠ pb
theorem grow_below {T : Nat → Prop} {w w' : World} (h : Below w.heap.size w w') : Grow T w w' := ⟨h.os, h.tape, h.output, h.size, fun b hb _ => h.block b hb⟩
theorem grow_refl (T : Nat → Prop) (w : World) : Grow T w w := grow_below (Below.refl _ _)
theorem grow_tr {T : Nat → Prop} {a b c : World} (h : Grow T a b) (k : Grow T b c) : Grow T a c :=
  ⟨k.os.trans h.os, k.tape.trans h.tape, k.output.trans h.output, Nat.le_trans h.size k.size, fun i hi hn => (k.block i (by have := h.size; omega) hn).trans (h.block i hi hn)⟩
theorem c_grow {P : Program} (t : T) {pl pb : Nat} {w w' : World} {x : t.den} {cs : List Value} (h : (reps P t).c w (NT pl pb) x cs) (hg : Grow (TT pl pb) w w') : (reps P t).c w' (NT pl pb) x cs :=
  c_keep t h ⟨hg.size, fun b hb hlt => hg.block b hb.lt fun e => by
    rcases e with e | e
    · exact hlt.1 e
    · exact hlt.2 e⟩ fun b _ h => h
abbrev ND (n0 pl pb : Nat) : Nat → Prop := fun b => n0 ≤ b ∧ b ≠ pl ∧ b ≠ pb
theorem c_grow2 {P : Program} (t : T) {n0 pl pb : Nat} {w w' : World} {x : t.den} {cs : List Value} (h : (reps P t).c w (ND n0 pl pb) x cs) (hg : Grow (TT pl pb) w w') : (reps P t).c w' (ND n0 pl pb) x cs :=
  c_keep t h ⟨hg.size, fun b hb hlt => hg.block b hb.lt fun e => by
    rcases e with e | e
    · exact hlt.2.1 e
    · exact hlt.2.2 e⟩ fun b _ h => h
theorem c_nd {P : Program} (t : T) {n0 pl pb : Nat} {w : World} {x : t.den} {cs : List Value} (h : (reps P t).c w (ND n0 pl pb) x cs) : (reps P t).c w (NT pl pb) x cs := c_mono t h fun _ _ h => h.2
abbrev growV (pm pt pl pb pg : Nat) : Value := .func (.func 89) #[] #[.pointer (some ⟨pm, 0, none⟩), .pointer (some ⟨pt, 0, none⟩), .pointer (some ⟨pl, 0, none⟩), .pointer (some ⟨pb, 0, none⟩), .pointer (some ⟨pg, 0, none⟩)]
structure GrowW (el eb : TypeId) (pm pt pl pb pg : Nat) (many : Int) (sv bv : Value) (least : Int) (w : World) : Prop where
  m : w.heap[pm]? = some (.cells #[.int .i64 many] 3 (0, 0))
  t : w.heap[pt]? = some (.cells #[sv] 22 (0, 0))
  l : w.heap[pl]? = some (.cells #[.int .i64 least] el (0, 0))
  b : w.heap[pb]? = some (.cells #[bv] eb (0, 0))
  g : w.heap[pg]? = some (.cells #[growV pm pt pl pb pg] 71 (0, 0))
theorem GrowW.below {el eb : TypeId} {pm pt pl pb pg : Nat} {many : Int} {sv bv : Value} {least : Int} {w w' : World} (h : GrowW el eb pm pt pl pb pg many sv bv least w) (hb : Below w.heap.size w w') : GrowW el eb pm pt pl pb pg many sv bv least w' :=
  ⟨(hb.block _ (lt_of_row h.m)).trans h.m, (hb.block _ (lt_of_row h.t)).trans h.t, (hb.block _ (lt_of_row h.l)).trans h.l, (hb.block _ (lt_of_row h.b)).trans h.b, (hb.block _ (lt_of_row h.g)).trans h.g⟩

theorem bld_slice {W : World} {r : Int} (hr : inI r) {w' : World} (h : w'.heap[W.heap.size]? = some (.cells #[.int .i64 r] 3 (0, 0))) : repSl rI w' (fun _ => True) [r] (.slice (some ⟨W.heap.size, 0, none⟩) 1 1) := by
  refine ⟨_, 1, rfl, Nat.le_refl _, by simp, .inr ⟨W.heap.size, 0, [.int .i64 r], rfl, trivial, lt_of_row h, ?_, ⟨[.int .i64 r], [], rfl, ⟨rfl, hr⟩, rfl⟩⟩⟩
  intro j v hj
  cases j with
  | zero =>
    simp at hj
    subst hj
    simp [World.cell?, h]
  | succ j => simp at hj
theorem own_below {w w' : World} {xs : List Int} {v : Value} {ob : Option (Nat × Nat)} (h : repOwn rI 1 w (fun _ => True) xs v ob) (hb : Below w.heap.size w w') : repOwn rI 1 w' (fun _ => True) xs v ob := by
  rcases h with h | ⟨b, off, cap, cur, e, g1, g2, g3, g4, g5⟩
  · exact .inl h
  · exact .inr ⟨b, off, cap, cur, e, g1, g2, g3, (hb.block _ (lt_of_row g4)).trans g4, g5⟩
theorem app_below {W1 w w4 : World} {ob : Option (Nat × Nat)} (hb : Below W1.heap.size W1 w) (hob : ∀ b o, ob = some (b, o) → W1.heap.size ≤ b) (g2 : w4.os = w.os) (g3 : w4.tape = w.tape) (g4 : w4.output = w.output) (g5 : w.heap.size ≤ w4.heap.size) (g6 : ∀ i, i < w.heap.size → (∀ o, ob ≠ some (i, o)) → w4.heap[i]? = w.heap[i]?) : Below W1.heap.size W1 w4 :=
  ⟨g2.trans hb.os, g3.trans hb.tape, g4.trans hb.output, Nat.le_trans hb.size g5, fun b hlt => (g6 b (by have := hb.size; omega) fun o e => by have := hob b o e; omega).trans (hb.block b hlt)⟩
theorem growT_bd {t : Ste} {k : Nat} {pre : List Int} {sum : Int} {st : List Int × Int} (h0 : 0 ≤ st.2) (hs : 0 ≤ sum) : 0 ≤ (growT t k pre sum st).2 ∧ (growT t k pre sum st).2 ≤ st.2 := by
  have := best_pos t k pre
  unfold growT stepM shB
  split
  · rename_i h
    exact ⟨by show 0 ≤ sum + _; omega, Int.le_of_lt h⟩
  · exact ⟨h0, Int.le_refl _⟩
theorem growK_bd {t : Ste} {k : Nat} {pre : List Int} {sum : Int} {st : List Int × Int} (h0 : 0 ≤ st.2) (hs : 0 ≤ sum) : ∀ i, 0 ≤ (growK t k pre sum st i).2 ∧ (growK t k pre sum st i).2 ≤ st.2
  | 0 => ⟨h0, Int.le_refl _⟩
  | i + 1 => by
    have ih := growK_bd (t := t) (k := k) (pre := pre) (sum := sum) (st := st) h0 hs i
    rw [growK_succ]
    split
    · exact ih
    · have := growT_bd (t := t) (k := k) (pre := pre ++ [(i : Int)]) (sum := sum + leftT t pre) (st := growK t k pre sum st i) ih.1 (by omega)
      omega
theorem left_zero {t : Ste} {order : List Int} (h : restL t order = []) : leftT t order = 0 := by
  unfold leftT
  rw [List.length_eq_zero_iff, List.filter_eq_nil_iff]
  intro g hg
  have := open_hit hg
  obtain ⟨r, hr, e⟩ := List.any_eq_true.1 this
  have hro : r ∈ order := by
    apply Classical.byContradiction
    intro hn
    have : r ∈ restL t order := by
      unfold restL
      rw [List.mem_filter]
      exact ⟨hr, by simp [hn]⟩
    rw [h] at this; cases this
  unfold unmet
  rw [List.any_eq_true.2 ⟨r, hro, e⟩]
  simp
theorem ints_of_own {w : World} {n0 pl pb : Nat} {xs : List Int} {v : Value} {ob : Option (Nat × Nat)} (h : repOwn rI 1 w (fun _ => True) xs v ob) (hob : ∀ b o, ob = some (b, o) → ND n0 pl pb b) : (reps Go.Proofs.Try.prog tInts).c w (ND n0 pl pb) xs [v] :=
  ⟨v, rfl, repSl_of_own (S' := ND n0 pl pb) (R' := (reps Go.Proofs.Try.prog .int).c w (ND n0 pl pb)) h hob fun _ _ h => h⟩

section
variable {pm pt pl pb pg : Nat}
theorem grow_call {el eb : TypeId} {n0 : Nat} {t : Ste} (ht : okT t) {sv : Value} (h1 : pm ≠ pl) (h2 : pm ≠ pb) (h3 : pt ≠ pl) (h4 : pt ≠ pb) (h5 : pg ≠ pl) (h6 : pg ≠ pb) (h7 : pl ≠ pb) : ∀ (k : Nat) (order : List Int) (sum : Int) (st : List Int × Int) (w : World) (ov bv : Value),
    n0 ≤ w.heap.size → (restL t order).length = k → inT t order → order.length + k = t.length → 0 ≤ sum → sum ≤ 10 * order.length → 0 ≤ st.2 → st.2 ≤ 1000 → GrowW el eb pm pt pl pb pg (openL t).length sv bv st.2 w →
    (reps Go.Proofs.Try.prog tSte).c w (NT pl pb) t [sv] → (reps Go.Proofs.Try.prog tInts).c w (ND n0 pl pb) order [ov] → (reps Go.Proofs.Try.prog tInts).c w (ND n0 pl pb) st.1 [bv] →
    Calls Go.Proofs.Try.prog 89 #[ov, .int .i64 sum, .pointer (some ⟨pm, 0, none⟩), .pointer (some ⟨pt, 0, none⟩), .pointer (some ⟨pl, 0, none⟩), .pointer (some ⟨pb, 0, none⟩), .pointer (some ⟨pg, 0, none⟩)] w fun e w' =>
      e = .returned (.tuple #[]) ∧ Grow (TT pl pb) w w' ∧ ∃ bv', GrowW el eb pm pt pl pb pg (openL t).length sv bv' (growT t k order sum st).2 w' ∧ (reps Go.Proofs.Try.prog tInts).c w' (ND n0 pl pb) (growT t k order sum st).1 [bv'] := by
  have hres : ∀ (tm : Array Value) (W : World), (results Go.Proofs.Try.f89 tm).run Go.Proofs.Try.prog W = .ok (.tuple #[]) W := fun tm W => by simp [results, Go.Proofs.Try.results89, go_sem]
  intro k
  induction k with
  | zero =>
    intro order sum st w ov bv hn0 hk hin hlen hs0 hs1 hl0 hl1 hW hT hO hB
    obtain ⟨cm, _⟩ := cell_row0 hW.m
    obtain ⟨ct, _⟩ := cell_row0 hW.t
    obtain ⟨cl, fl⟩ := cell_row0 hW.l
    obtain ⟨cb, fb⟩ := cell_row0 hW.b
    obtain ⟨cg, _⟩ := cell_row0 hW.g
    have hmet : ∀ w', Below w.heap.size w w' → Calls Go.Proofs.Try.prog 81 #[sv, ov] w' fun e w'' => ∃ ao c, e = .returned (.slice ao (metL t order).length c) ∧ Below w'.heap.size w' w'' := fun w' hb =>
      met_call (c_grow tSte hT (grow_below hb)) (c_nd tInts (c_grow2 tInts hO (grow_below hb))) ht hin
    have hS : ∀ w', Below w.heap.size w w' → w'.cell? ⟨pm, 0, none⟩ = some (.int .i64 (openL t).length) ∧ w'.cell? ⟨pt, 0, none⟩ = some sv ∧ Below w.heap.size w w' := fun w' hb => ⟨cell_below hb (lt_of_row hW.m) cm, cell_below hb (lt_of_row hW.t) ct, hb⟩
    go_enter Go.Proofs.Try.func89, Go.Proofs.Try.ntmps89
    refine (wpIn_wide (n := 0)).1 ?_
    show Code.wpIn (Fw none) 0 _ _ _ _ _
    refine wpIn_seq ((wpIn_wide (n := 0)).2 ?_)
    go_region_held3 (fun w' => w'.cell? ⟨pm, 0, none⟩ = some (.int .i64 (openL t).length) ∧ w'.cell? ⟨pt, 0, none⟩ = some sv ∧ Below w.heap.size w w') ((refine hS _ ?_; first | exact (Below.refl _ _).drew | exact hq.trans (hb.mono hq.size))) (first | (go_at_call 81; refine (hmet _ (And.right (And.right ‹_ ∧ _ ∧ Below w.heap.size w _›))).mono ?_; rintro e w' ⟨ao, c, rfl, hb⟩; have hq := And.right (And.right ‹_ ∧ _ ∧ Below w.heap.size w _›)))
    have hHeld := ‹_ ∧ _ ∧ Below w.heap.size w w'›
    obtain ⟨c3m, c3t, hb3⟩ := hHeld
    have c3l := cell_below hb3 (lt_of_row hW.l) cl
    simp only [Exit.then]
    refine wpIn_seq (wpIn_seq ((wpIn_wide (n := 0)).2 ?_))
    have hm := left_met hin
    have hml := metL_len t order
    have hol := openL_len t
    have h10 := ht.2.1
    have h8 := ht.1
    have hz0 := left_zero (List.length_eq_zero_iff.1 hk)
    rw [hz0] at hm
    have w1 : wrap64 (((openL t).length : Int) - ((metL t order).length : Int)) = 0 := by
      rw [hm]; exact w64 (by omega) (by omega)
    have w2 : wrap64 (sum + 0) = sum := by rw [Int.add_zero]; exact w64 (by omega) (by omega)
    obtain ⟨sa, sc, esv⟩ : ∃ ao c, sv = .slice ao t.length c := by
      obtain ⟨u, e, ao, c, e2, _⟩ := hT
      cases e
      exact ⟨ao, c, e2⟩
    obtain ⟨oa, oc, eov⟩ : ∃ ao c, ov = .slice ao order.length c := by
      obtain ⟨u, e, ao, c, e2, _⟩ := hO
      cases e
      exact ⟨ao, c, e2⟩
    subst esv
    subst eov
    have hend := grow_end t order sum st
    clear hS hmet hq hb hm hml hol cm ct cl cb cg
    have g2 : ¬ 0 < wrap64 (((openL t).length : Int) - ((metL t order).length : Int)) := by rw [w1]; omega
    by_cases hc : st.2 ≤ sum
    · have g1 : st.2 ≤ wrap64 (sum + wrap64 (((openL t).length : Int) - ((metL t order).length : Int))) := by rw [w1, w2]; exact hc
      have hend : growT t 0 order sum st = st := by rw [hend, if_neg (by omega)]
      clear w1 w2
      go_wp2
      refine wpIn_cond_true (by simp [Act.eval]) (wpIn_ret ?_)
      simp only [Exit.then]
      try rw [hend]
      exact ⟨rfl, _, hres _ _, rfl, grow_below hb3, bv, hW.below hb3, c_grow2 tInts hB (grow_below hb3)⟩
    · have g1 : ¬ st.2 ≤ wrap64 (sum + wrap64 (((openL t).length : Int) - ((metL t order).length : Int))) := by rw [w1, w2]; exact hc
      have hend : growT t 0 order sum st = (order, sum) := by rw [hend, if_pos (by omega)]
      have hend : Shut (growT t 0 order sum st = (order, sum)) := hend
      have hw1 : Shut (wrap64 (((openL t).length : Int) - ((metL t order).length : Int)) = 0) := w1
      clear w1 w2
      go_wp2
      rw [hw1.out]
      refine wpIn_cond_false (by simp [Act.eval]) (wpIn_skip ?_)
      simp only [Exit.then]
      refine wpIn_seq (wpIn_seq (wl_region rfl ?_))
      simp [wl, go_sem, Exit.then, c3t]
      have hW3 := hW.below hb3
      obtain ⟨c3b, f3b⟩ := cell_row0 hW3.b
      refine wpIn_cond_true (by simp [Act.eval]; omega) (wpIn_seq (wl_region rfl ?_))
      have k4 : (w'.setCell ⟨pb, 0, none⟩ (.slice oa order.length oc)).heap[pl]? = some (.cells #[.int .i64 st.2] el (0, 0)) := (Below.heap_setCell _ _ _ _ h7).trans hW3.l
      obtain ⟨c4l, f4l⟩ := cell_row0 k4
      simp [wl, go_sem, Exit.then, c3b, f3b, c4l, f4l]
      refine wpIn_ret ?_
      simp only [Exit.then]
      try rw [hend.out]
      have hg : Grow (TT pl pb) w' ((w'.setCell ⟨pb, 0, none⟩ (.slice oa order.length oc)).setCell ⟨pl, 0, none⟩ (.int .i64 sum)) := by
        refine ⟨rfl, rfl, rfl, by simp [World.setCell], fun b hb hn => ?_⟩
        exact (Below.heap_setCell _ _ _ _ fun e => hn (.inl e)).trans (Below.heap_setCell _ _ _ _ fun e => hn (.inr e))
      have k5 := heap_setCell_row (.int .i64 sum) k4
      have k6 : ((w'.setCell ⟨pb, 0, none⟩ (.slice oa order.length oc)).setCell ⟨pl, 0, none⟩ (.int .i64 sum)).heap[pb]? = some (.cells #[.slice oa order.length oc] eb (0, 0)) := (Below.heap_setCell _ _ _ _ h7.symm).trans (heap_setCell_row _ hW3.b)
      have hgr := grow_tr (grow_below (T := TT pl pb) hb3) hg
      have hk : ∀ b, b < w'.heap.size → b ≠ pl → b ≠ pb → ((w'.setCell ⟨pb, 0, none⟩ (.slice oa order.length oc)).setCell ⟨pl, 0, none⟩ (.int .i64 sum)).heap[b]? = w'.heap[b]? := fun b hb n1 n2 => hg.block b hb fun e => by
        rcases e with e | e
        · exact n1 e
        · exact n2 e
      exact ⟨rfl, _, hres _ _, rfl, hgr, _, ⟨(hk _ (lt_of_row hW3.m) h1 h2).trans hW3.m, (hk _ (lt_of_row hW3.t) h3 h4).trans hW3.t, k5, k6, (hk _ (lt_of_row hW3.g) h5 h6).trans hW3.g⟩, c_grow2 tInts hO hgr⟩
  | succ k ih =>
    intro order sum st w ov bv hn0 hk hin hlen hs0 hs1 hl0 hl1 hW hT hO hB
    obtain ⟨cm, _⟩ := cell_row0 hW.m
    obtain ⟨ct, _⟩ := cell_row0 hW.t
    obtain ⟨cl, fl⟩ := cell_row0 hW.l
    obtain ⟨cb, fb⟩ := cell_row0 hW.b
    obtain ⟨cg, _⟩ := cell_row0 hW.g
    have hmet : ∀ w', Below w.heap.size w w' → Calls Go.Proofs.Try.prog 81 #[sv, ov] w' fun e w'' => ∃ ao c, e = .returned (.slice ao (metL t order).length c) ∧ Below w'.heap.size w' w'' := fun w' hb =>
      met_call (c_grow tSte hT (grow_below hb)) (c_nd tInts (c_grow2 tInts hO (grow_below hb))) ht hin
    have hS : ∀ w', Below w.heap.size w w' → w'.cell? ⟨pm, 0, none⟩ = some (.int .i64 (openL t).length) ∧ w'.cell? ⟨pt, 0, none⟩ = some sv ∧ Below w.heap.size w w' := fun w' hb => ⟨cell_below hb (lt_of_row hW.m) cm, cell_below hb (lt_of_row hW.t) ct, hb⟩
    go_enter Go.Proofs.Try.func89, Go.Proofs.Try.ntmps89
    refine (wpIn_wide (n := 0)).1 ?_
    show Code.wpIn (Fw none) 0 _ _ _ _ _
    refine wpIn_seq ((wpIn_wide (n := 0)).2 ?_)
    go_region_held3 (fun w' => w'.cell? ⟨pm, 0, none⟩ = some (.int .i64 (openL t).length) ∧ w'.cell? ⟨pt, 0, none⟩ = some sv ∧ Below w.heap.size w w') ((refine hS _ ?_; first | exact (Below.refl _ _).drew | exact hq.trans (hb.mono hq.size))) (first | (go_at_call 81; refine (hmet _ (And.right (And.right ‹_ ∧ _ ∧ Below w.heap.size w _›))).mono ?_; rintro e w' ⟨ao, c, rfl, hb⟩; have hq := And.right (And.right ‹_ ∧ _ ∧ Below w.heap.size w _›)))
    have hHeld := ‹_ ∧ _ ∧ Below w.heap.size w w'›
    obtain ⟨c3m, c3t, hb3⟩ := hHeld
    have c3l := cell_below hb3 (lt_of_row hW.l) cl
    simp only [Exit.then]
    refine wpIn_seq (wpIn_seq ((wpIn_wide (n := 0)).2 ?_))
    have hm := left_met hin
    have hml := metL_len t order
    have hol := openL_len t
    have h10 := ht.2.1
    have h8 := ht.1
    have w1 : wrap64 (((openL t).length : Int) - ((metL t order).length : Int)) = (leftT t order : Int) := by
      rw [hm]; exact w64 (by omega) (by omega)
    have w2 : wrap64 (sum + (leftT t order : Int)) = sum + (leftT t order : Int) := w64 (by omega) (by omega)
    have hne : restL t order ≠ [] := fun e => by rw [e] at hk; simp at hk
    have hcut : st.2 ≤ sum + (leftT t order : Int) → growT t (k + 1) order sum st = st := fun h => grow_cut hne h
    have hgo := @growK_all t k order sum st hne
    have hL10 := left_bound ht order
    obtain ⟨sa, sc, esv⟩ : ∃ ao c, sv = .slice ao t.length c := by
      obtain ⟨u, e, ao, c, e2, _⟩ := hT
      cases e
      exact ⟨ao, c, e2⟩
    obtain ⟨oa, oc, eov⟩ : ∃ ao c, ov = .slice ao order.length c := by
      obtain ⟨u, e, ao, c, e2, _⟩ := hO
      cases e
      exact ⟨ao, c, e2⟩
    subst esv
    subst eov
    clear hS hmet hq hb hm hml hol hgo cm ct cl cb cg
    by_cases hc : st.2 ≤ sum + (leftT t order : Int)
    · have hcut := hcut hc
      have g1 : st.2 ≤ wrap64 (sum + wrap64 (((openL t).length : Int) - ((metL t order).length : Int))) := by rw [w1, w2]; exact hc
      by_cases hz : 0 < leftT t order
      · have g2 : 0 < wrap64 (((openL t).length : Int) - ((metL t order).length : Int)) := by rw [w1]; omega
        clear w1 w2
        go_wp2
        refine wpIn_cond_true (by simp [Act.eval]) (wpIn_ret ?_)
        simp only [Exit.then]
        rw [hcut]
        exact ⟨rfl, _, hres _ _, rfl, grow_below hb3, bv, hW.below hb3, c_grow2 tInts hB (grow_below hb3)⟩
      · have g2 : ¬ 0 < wrap64 (((openL t).length : Int) - ((metL t order).length : Int)) := by rw [w1]; omega
        have g3 : st.2 ≤ sum := by omega
        clear w1 w2
        go_wp2
        refine wpIn_cond_true (by simp [Act.eval]) (wpIn_ret ?_)
        simp only [Exit.then]
        try rw [hcut]
        exact ⟨rfl, _, hres _ _, rfl, grow_below hb3, bv, hW.below hb3, c_grow2 tInts hB (grow_below hb3)⟩
    · have g1 : ¬ st.2 ≤ wrap64 (sum + wrap64 (((openL t).length : Int) - ((metL t order).length : Int))) := by rw [w1, w2]; exact hc
      have hw1 : Shut (wrap64 (((openL t).length : Int) - ((metL t order).length : Int)) = (leftT t order : Int)) := w1
      have hww : Shut (IntKind.i64.wrap (((openL t).length : Int) - ((metL t order).length : Int)) = (leftT t order : Int)) := by
        have hm := left_met hin
        rw [hm]; exact wrap_in (by unfold inI; omega)
      have hw2 : Shut (wrap64 (sum + (leftT t order : Int)) = sum + (leftT t order : Int)) := w2
      clear w1 w2 hcut
      go_wp2
      rw [hw1.out]
      refine wpIn_cond_false (by simp [Act.eval]) (wpIn_skip ?_)
      simp only [Exit.then]
      refine wpIn_seq (wpIn_seq (wl_region rfl ?_))
      simp [wl, go_sem, Exit.then, c3t]
      refine wpIn_cond_false (by simp [Act.eval]; omega) (wpIn_skip ?_)
      simp only [Exit.then]
      refine wpIn_seq (wl_region rfl ?_)
      simp [wl, go_sem, Exit.then, c3t]
      refine wpIn_block (wp_loopAt ?_)
      have w1 : IntKind.i64.wrap (((openL t).length : Int) - ((metL t order).length : Int)) = (leftT t order : Int) := hww.out
      rw [w1]
      obtain ⟨A, hA⟩ : ∃ A : Nat → Act → World → Prop, A = fun m a W => ∃ x7 x8 x10 x11 x12 x13 x14 x15 x16 x17 x18 x19 x20 x21 x22 x23 x24 x25 x26 x27 x28 x29 x30 x31 x32 x33 x34 x35 x36 x37 x38 x41 x42 x43 x44 x45 x46 x47 x48 x49 x50 x51 x52 x53 x54 x55 x56 x57 : Value, a = ⟨#[.slice oa order.length oc, .int .i64 sum, .pointer (some ⟨pm, 0, none⟩), .pointer (some ⟨pt, 0, none⟩), .pointer (some ⟨pl, 0, none⟩), .pointer (some ⟨pb, 0, none⟩), .pointer (some ⟨pg, 0, none⟩), x7, x8, .int .i64 (leftT t order), x10, x11, x12, x13, x14, x15, x16, x17, x18, x19, x20, x21, x22, x23, x24, x25, x26, x27, x28, x29, x30, x31, x32, x33, x34, x35, x36, x37, x38, .int .i64 t.length, .int .i64 m, x41, x42, x43, x44, x45, x46, x47, x48, x49, x50, x51, x52, x53, x54, x55, x56, x57], []⟩ ∧ Grow (TT pl pb) w W ∧ ∃ bv', GrowW el eb pm pt pl pb pg (openL t).length (.slice sa t.length sc) bv' (growK t k order sum st m).2 W ∧ (reps Go.Proofs.Try.prog tInts).c W (ND n0 pl pb) (growK t k order sum st m).1 [bv'] := ⟨_, rfl⟩
      refine loop_up (n := t.length) A ?_ ?_ 0 (by omega) _ _ (by rw [hA]; exact ⟨_, _, _, _, _, _, _, _, _, _, _, _, _, _, _, _, _, _, _, _, _, _, _, _, _, _, _, _, _, _, _, _, _, _, _, _, _, _, _, _, _, _, _, _, _, _, _, _, rfl, grow_below hb3, bv, hW.below hb3, c_grow2 tInts hB (grow_below hb3)⟩)
      · intro a W ha
        rw [hA] at ha
        revert ha
        rintro ⟨x7, x8, x10, x11, x12, x13, x14, x15, x16, x17, x18, x19, x20, x21, x22, x23, x24, x25, x26, x27, x28, x29, x30, x31, x32, x33, x34, x35, x36, x37, x38, x41, x42, x43, x44, x45, x46, x47, x48, x49, x50, x51, x52, x53, x54, x55, x56, x57, rfl, hgr, bv2, hW2, hB2⟩
        refine wpIn_seq (wl_region rfl ?_)
        simp [wl, go_sem, Exit.then]
        refine wpIn_seq (wpIn_cond_false (by simp [Act.eval]) (wpIn_exit ?_))
        simp only [Exit.then, Exit.inBlock, if_true]
        rw [growK_all hne] at hW2 hB2
        exact ⟨rfl, _, hres _ _, rfl, hgr, bv2, hW2, hB2⟩
      · intro m a W hm ha
        rw [hA] at ha
        revert ha
        rintro ⟨x7, x8, x10, x11, x12, x13, x14, x15, x16, x17, x18, x19, x20, x21, x22, x23, x24, x25, x26, x27, x28, x29, x30, x31, x32, x33, x34, x35, x36, x37, x38, x41, x42, x43, x44, x45, x46, x47, x48, x49, x50, x51, x52, x53, x54, x55, x56, x57, rfl, hgr, bv2, hW2, hB2⟩
        refine wpIn_seq (wl_region rfl ?_)
        simp [wl, go_sem, Exit.then]
        refine wpIn_seq (wpIn_cond_true (by simp [Act.eval]; omega) (wpIn_skip ?_))
        simp only [Exit.then]
        refine wpIn_seq (wpIn_block (wpIn_seq (wl_region rfl ?_)))
        simp [wl, go_sem, Exit.then]
        refine wpIn_seq (wl_region rfl ?_)
        simp [wl, go_sem, Exit.then, Exit.inBlock]
        have hmI : inI (m : Int) := by unfold inI; omega
        refine (cont_call (r := (m : Int)) (c_grow2 tInts hO hgr) hmI).mono ?_
        rintro e W1 ⟨rfl, hbW1⟩
        simp [wl, go_sem, Exit.then, Exit.inBlock]
        have hW1 := hW2.below hbW1
        have hB1 := c_grow2 tInts hB2 (grow_below (T := TT pl pb) hbW1)
        have hgr1 := grow_tr hgr (grow_below (T := TT pl pb) hbW1)
        by_cases hmem : (m : Int) ∈ order
        · refine wpIn_cond_false (by simp [Act.eval, hmem]) (wpIn_skip ?_)
          simp only [Exit.then, Exit.inBlock]
          refine wl_region rfl ?_
          simp [wl, go_sem, Exit.then]
          rw [show IntKind.i64.wrap ((m : Int) + 1) = ((m + 1 : Nat) : Int) from wrap_in (by unfold inI; omega), hA]
          have eg : growK t k order sum st (m + 1) = growK t k order sum st m := by rw [growK_succ, if_pos hmem]
          exact ⟨_, _, _, _, _, _, _, _, _, _, _, _, _, _, _, _, _, _, _, _, _, _, _, _, _, _, _, _, _, _, _, _, _, _, _, _, _, _, _, _, _, _, _, _, _, _, _, _, rfl, hgr1, bv2, by rw [eg]; exact hW1, by rw [eg]; exact hB1⟩
        · refine wpIn_cond_true (by simp [Act.eval, hmem]) ((wpIn_wide (n := 0)).2 ?_)
          obtain ⟨cg1, _⟩ := cell_row0 hW1.g
          have lt1 := lt_of_row hW1.g
          have hO1 := c_grow2 tInts hO hgr1
          have hT1 := c_grow tSte hT hgr1
          have hol2 : order.length ≤ 1000000 := by omega
          have hcl : ∀ w', Below W1.heap.size W1 w' → Calls Go.Proofs.Try.prog 91 #[.slice oa order.length oc] w' fun e w'' => ∃ (v : Value) (ob : Option (Nat × Nat)), e = .returned v ∧ repOwn rI 1 w'' (fun _ => True) order v ob ∧ (∀ b off, ob = some (b, off) → W1.heap.size ≤ b) ∧ Below w'.heap.size w' w'' ∧ Below W1.heap.size W1 w'' := fun w' hb => by
            refine (clone_call (c_grow2 tInts hO1 (grow_below (T := TT pl pb) hb)) hol2).mono ?_
            rintro e w'' ⟨v, ob, rfl, g1, g2, g3⟩
            have := hb.size
            exact ⟨v, ob, rfl, g1, fun b off h => by have := g2 b off h; omega, g3, hb.trans (g3.mono hb.size)⟩
          have hKg : ∀ w', Below W1.heap.size W1 w' → w'.cell? ⟨pg, 0, none⟩ = some (growV pm pt pl pb pg) := fun w' hb => cell_below hb lt1 cg1
          have ltl := lt_of_row hW1.l
          have ltb := lt_of_row hW1.b
          have hsum : IntKind.i64.wrap (sum + (leftT t order : Int)) = sum + (leftT t order : Int) := wrap_in (by unfold inI; omega)
          have hmr : (m : Int) ∈ restL t order := rest_mem.2 ⟨⟨by omega, by omega⟩, hmem⟩
          have hkN : (restL t (order ++ [(m : Int)])).length = k := by have := rest_len hmr; omega
          have hbd := growK_bd (t := t) (k := k) (pre := order) (sum := sum) (st := st) hl0 hs0 m
          have hin2 := inT_snoc hin hm
          have ihm : ∀ (w4 : World) (v4 : Value), Below W1.heap.size W1 w4 → (reps Go.Proofs.Try.prog tInts).c w4 (ND n0 pl pb) (order ++ [(m : Int)]) [v4] → Calls Go.Proofs.Try.prog 89 #[v4, .int .i64 (sum + (leftT t order : Int)), .pointer (some ⟨pm, 0, none⟩), .pointer (some ⟨pt, 0, none⟩), .pointer (some ⟨pl, 0, none⟩), .pointer (some ⟨pb, 0, none⟩), .pointer (some ⟨pg, 0, none⟩)] w4 fun e w' =>
              e = .returned (.tuple #[]) ∧ Grow (TT pl pb) w w' ∧ ∃ bv', GrowW el eb pm pt pl pb pg (openL t).length (.slice sa t.length sc) bv' (growK t k order sum st (m + 1)).2 w' ∧ (reps Go.Proofs.Try.prog tInts).c w' (ND n0 pl pb) (growK t k order sum st (m + 1)).1 [bv'] := fun w4 v4 hb h => by
            refine (ih (order ++ [(m : Int)]) (sum + (leftT t order : Int)) (growK t k order sum st m) w4 v4 bv2 (Nat.le_trans hn0 (Nat.le_trans hgr1.size hb.size)) hkN hin2 (by simp; omega) (by omega) (by simp; omega) hbd.1 (by omega) (hW1.below hb) (c_grow tSte hT1 (grow_below hb)) h (c_grow2 tInts hB1 (grow_below hb))).mono ?_
            rintro e w5 ⟨rfl, hg5, bv5, hW5, hB5⟩
            refine ⟨rfl, grow_tr hgr1 (grow_tr (grow_below hb) hg5), bv5, ?_, ?_⟩
            · rw [growK_succ, if_neg hmem]; exact hW5
            · rw [growK_succ, if_neg hmem]; exact hB5
          have hgs := hgr1.size
          have hobN : ∀ b, W1.heap.size ≤ b → ND n0 pl pb b := fun b h => ⟨by omega, by omega, by omega⟩
          have hlen2 : order.length + [(m : Int)].length ≤ 4294967296 := by simp; omega
          clear hW2 hB2 hW hT hO hB hbW1 hgr hw1 hw2 g1 hc c3m c3t c3l hb3 w1 ih hbd hkN hmr hin2 hW1 hB1 hgr1 hO1 hT1 hol2
          go_region_held3 (fun w' => w'.cell? ⟨pg, 0, none⟩ = some (growV pm pt pl pb pg)) ((first | exact hcR | exact hKg _ hbA | exact hKg _ (hbB.alloc hbB.size _) | exact hKg _ hbB | exact hKg _ (((Below.refl _ _).drew).alloc (Nat.le_refl _) _) | exact hKg _ (Below.refl _ _).drew))
            (first
              | (go_at_call 91; refine (hcl _ (by first | exact (Below.refl _ _).drew | exact ((Below.refl _ _).drew).alloc (Nat.le_refl _) _)).mono ?_; rintro e w3 ⟨v3, ob3, rfl, hown, hob3, hbC, hbB⟩)
              | (refine step_app (by rfl) _ _ (by rfl) (by rfl) (by rfl) (own_below hown ((Below.refl _ _).alloc (Nat.le_refl _) _)) (bld_slice hmI (heap_alloc_new _ _)) hlen2 ?_; intro v4 w4 ob4 hA1 hA2 hA3 hA4 hA5 hA6 hA7; have hbA := app_below (hbB.alloc hbB.size _) hob3 hA2 hA3 hA4 hA5 hA6; have hR4 := ints_of_own (pl := pl) (pb := pb) hA1 fun b o e => hobN b (by rcases hA7 b o e with h | ⟨o', h⟩ <;> first | exact Nat.le_trans (hbB.alloc hbB.size _).size h | exact hob3 b o' h))
              | (refine step_app (by rfl) _ _ (by rfl) (by rfl) (by rfl) hown (bld_slice hmI ((hbC.block _ (by simp)).trans (heap_alloc_new _ _))) hlen2 ?_; intro v4 w4 ob4 hA1 hA2 hA3 hA4 hA5 hA6 hA7; have hbA := app_below hbB hob3 hA2 hA3 hA4 hA5 hA6; have hR4 := ints_of_own (pl := pl) (pb := pb) hA1 fun b o e => hobN b (by rcases hA7 b o e with h | ⟨o', h⟩ <;> first | exact Nat.le_trans hbB.size h | exact hob3 b o' h))
              | (go_at_call 89; refine (ihm _ _ hbA hR4).mono ?_; rintro e w5 ⟨rfl, hg5, bv5, hW5, hB5⟩; have hcR := And.left (cell_row0 hW5.g)))
          all_goals
            simp only [Exit.then, Exit.inBlock]
            refine wl_region rfl ?_
            simp [wl, go_sem, Exit.then]
            rw [show IntKind.i64.wrap ((m : Int) + 1) = ((m + 1 : Nat) : Int) from wrap_in (by unfold inI; omega), hA]
            exact ⟨_, _, _, _, _, _, _, _, _, _, _, _, _, _, _, _, _, _, _, _, _, _, _, _, _, _, _, _, _, _, _, _, _, _, _, _, _, _, _, _, _, _, _, _, _, _, _, _, rfl, hg5, bv5, hW5, hB5⟩
end
end Go.Tk
