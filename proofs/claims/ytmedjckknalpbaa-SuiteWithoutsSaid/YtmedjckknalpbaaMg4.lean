/- Merged: C8M. -/
import Derived.Test.YtmedjckknalpbaaMg3
/- SuiteWithouts, by hand: the loops. -/
set_option linter.unusedSimpArgs false
set_option linter.unusedVariables false
set_option linter.unnecessarySimpa false
set_option maxRecDepth 10000
set_option maxHeartbeats 8000000
namespace Go.Tk
open Go Go.RowKit
theorem row_out {w : World} {S : Nat → Prop} {xs : List Int} {v : Value} {ob : OB} (h : repOwn rI 1 w S xs v ob) {k : Nat} (hk : k < xs.length) :
    ∃ b off cap cur e, ob = some (b, off) ∧ v = .slice (some ⟨b, off, none⟩) xs.length cap ∧ w.heap[b]? = some (.cells cur e (0, 0)) ∧ off + k < cur.size ∧ ∀ (w' : World) z, inI z → w'.heap[b]? = some (.cells (cur.setIfInBounds (off + k) (.int .i64 z)) e (0, 0)) → repOwn rI 1 w' S (xs.set k z) v ob := by
  rcases h with ⟨_, rfl, _⟩ | ⟨b, off, cap, cur, e, rfl, rfl, g3, g4, g5, g6, g7, g8⟩
  · simp at hk
  · have hc := repL_map (f := Value.int .i64) (fun x cs h => h.1) xs _ g8
    have hin : ∀ x ∈ xs, inI x := fun x hx => repL_all (p := inI) (fun x cs h => h.2) xs _ g8 x hx
    rw [Nat.mul_one] at hc
    refine ⟨b, off, cap, cur, e, rfl, rfl, g4, by omega, fun w' z hz hw' => ?_⟩
    refine .inr ⟨b, off, cap, _, e, rfl, by rw [List.length_set], g3, hw', by rw [List.length_set]; exact g5, by rw [List.length_set]; exact g6, by rw [Array.size_setIfInBounds]; exact g7, ?_⟩
    have e1 : (((cur.setIfInBounds (off + k) (.int .i64 z)).toList.drop off).take ((xs.set k z).length * 1)) = (xs.set k z).map (Value.int .i64) := by
      rw [List.length_set, Nat.mul_one, Array.toList_setIfInBounds, List.drop_set, if_neg (by omega), List.take_set, Nat.add_sub_cancel_left, hc, List.map_set]
    rw [e1]
    exact repL_of_map (R := rI) (f := Value.int .i64) (xs.set k z) fun x hx => ⟨rfl, by
      rcases List.mem_or_eq_of_mem_set hx with g | g
      · exact hin x g
      · rw [g]; exact hz⟩
theorem set_self {α : Type} (l : List α) (d : α) {j : Nat} (hj : j < l.length) : l.set j (l.getD j d) = l := by
  apply List.ext_getElem (by simp)
  intro i h1 h2
  rw [List.getElem_set]
  split
  · rename_i e; subst e; simp [List.getD_eq_getElem?_getD, hj]
  · rfl
theorem NestW.put {lo : Nat} {w : World} {t : Ste} {v : Value} {ob : OB} {vs : List Value} {os : List OB} {xs : List Int} {j b off : Nat} {cur : Array Value} (h : NestW lo w t v ob vs os) (hj : j < t.length) (hlo : lo ≤ w.heap.size) (hos : os.getD j none = some (b, off)) (hr : repOwn rI 1 (w.setRow b cur) (fun _ => True) xs (vs.getD j undef) (some (b, off))) : NestW lo (w.setRow b cur) (t.set j xs) v ob vs os := by
  have hk : ∀ i, i ≠ b → (w.setRow b cur).heap[i]? = w.heap[i]? := fun i hi => setRow_other _ _ _ _ hi
  have := h.set (w' := w.setRow b cur) (nv := vs.getD j undef) (nob := os.getD j none) (xs := xs) hj hlo (by
    rw [set_self vs undef (by rw [h.lenv]; exact hj)]
    exact own_blk h.out fun b' o e => hk b' fun e' => h.sep j hj b off hos o (by rw [e, e'])) (by rw [hos]; exact hr) (fun b' o e => .inr ⟨o, e⟩) (fun i _ _ hi => hk i fun e => hi off (by rw [hos, e]))
  rwa [set_self vs undef (by rw [h.lenv]; exact hj), set_self os none (by rw [h.leno]; exact hj)] at this
theorem sameS_call {w : World} {S S' : Nat → Prop} {s t : Ste} {sv tv : Value} (hs : (reps Go.Proofs.Try.prog tSte).c w S s [sv]) (ht : (reps Go.Proofs.Try.prog tSte).c w S' t [tv]) (hl : s.length ≤ 1000000) (hl2 : t.length ≤ 1000000) :
    Calls Go.Proofs.Try.prog 39 #[sv, tv] w fun e w' => e = .returned (.bool (decide (s = t))) ∧ Below w.heap.size w w' := by
  refine ((cSameD_ok.1 rfl) w (fun _ => True) (s, t, ()) [sv, tv] ⟨sv, [tv], [], [], rfl, rfl, ⟨rfl, [sv], rfl, c_mono tSte hs fun _ _ _ => trivial⟩, tv, [], [], [], rfl, rfl, ⟨rfl, [tv], rfl, c_mono tSte ht fun _ _ _ => trivial⟩, rfl, rfl⟩ ⟨hl, hl2⟩).mono ?_
  rintro e w' ⟨rs, bs, rfl, ⟨u, us, _, _, rfl, _, ⟨_, cs, rfl, rfl⟩, rfl, _⟩, _, _, hb⟩
  exact ⟨rfl, hb⟩
theorem longS_call {w : World} {S : Nat → Prop} {t : Ste} {v : Value} (ht : (reps Go.Proofs.Try.prog tSte).c w S t [v]) :
    Calls Go.Proofs.Try.prog 17 #[v] w fun e w' => e = .returned (.bool (longT t)) ∧ Below w.heap.size w w' := by
  refine ((cLong8_ok.1 rfl) w S (t, ()) [v] ⟨v, [], [], [], rfl, rfl, ⟨rfl, [v], rfl, ht⟩, rfl, rfl⟩ trivial).mono ?_
  rintro e w' ⟨rs, bs, rfl, ⟨u, us, _, _, rfl, _, ⟨_, cs, rfl, rfl⟩, rfl, _⟩, _, _, hb⟩
  exact ⟨rfl, hb⟩
theorem saneS_call {w : World} : Calls Go.Proofs.Try.prog 18 #[] w fun e w' => e = .returned (.bool true) ∧ Below w.heap.size w w' := by
  refine ((cSane8_ok.1 rfl) w (fun _ => True) () [] ⟨rfl, rfl⟩ trivial).mono ?_
  rintro e w' ⟨rs, bs, rfl, ⟨u, us, _, _, rfl, _, ⟨_, cs, rfl, rfl⟩, rfl, _⟩, _, _, hb⟩
  exact ⟨rfl, hb⟩
theorem openS_call {w : World} {S : Nat → Prop} {t : Ste} {v : Value} (ht : (reps Go.Proofs.Try.prog tSte).c w S t [v]) (h0 : validT t = 0) :
    Calls Go.Proofs.Try.prog 28 #[v] w fun e w' => ∃ ao c, e = .returned (.tuple #[.slice ao (openL t).length c, .int .i64 0]) ∧ Below w.heap.size w w' := by
  refine ((cOpenS_ok.1 rfl) w S (t, ()) [v] ⟨v, [], [], [], rfl, rfl, ⟨rfl, [v], rfl, ht⟩, rfl, rfl⟩ trivial).mono ?_
  rintro e w' ⟨rs, bs, rfl, hr, _, _, hb⟩
  dsimp only [cOpenS] at hr
  rw [if_pos h0, h0] at hr
  obtain ⟨u, us, b1, b2, rfl, _, ⟨ob, hown, _⟩, u2, us2, _, _, rfl, _, ⟨_, cs, rfl, rfl, _⟩, rfl, _⟩ := hr
  rcases hown with ⟨rfl, e, _⟩ | ⟨b, off, cap, cur, e, _, rfl, _⟩
  · have e : openL t = [] := e
    rw [e]
    exact ⟨none, 0, rfl, hb⟩
  · exact ⟨_, cap, rfl, hb⟩
def subC : Code → List Nat → Code
  | c, [] => c
  | .seq a _, 0 :: p => subC a p
  | .seq _ b, 1 :: p => subC b p
  | c, _ => c
theorem withTail {w W2 : World} {S : Nat → Prop} {t wt : Ste} {ao va : Option Addr} {cap vc : Nat} {ov : Value} {ob : OB} {vs : List Value} {os : List OB} {row : Int} {PO : Ending → World → Prop}
    (keepT : ∀ {W : World}, Below w.heap.size w W → (reps Go.Proofs.Try.prog tSte).c W S t [.slice ao t.length cap]) (hOd : (reps Go.Proofs.Try.prog tSte).c W2 (fun _ => True) t [ov]) (hb02 : Below w.heap.size w W2) (htl : t.length ≤ 50) (hwl : wt.length ≤ 50) (hpost : ∀ W, Below w.heap.size w W → PO (.returned (.bool true)) W)
    (x2 x3 x4 x7 x8 x9 x10 x11 x12 x13 x14 x15 x16 x17 x18 x19 x20 x21 x22 x23 x24 x25 x26 x27 x28 x29 x30 x31 x32 x33 x34 x35 x36 x37 x38 x39 x40 x41 x42 x43 x44 x45 x46 x47 x48 x49 x50 x51 x52 x53 x54 x55 x56 x57 x58 x59 x60 x61 x62 x63 x64 x65 x66 x67 x68 x69 x70 x71 x72 x73 x74 x75 x76 x77 x78 x79 x80 x81 x82 x83 x84 x85 x86 x87 x88 x89 x90 x91 x92 x93 : Value) (W : World) (hN : NestW W2.heap.size W wt (.slice va wt.length vc) ob vs os) (hb : Below W2.heap.size W2 W) :
    Code.wpIn (Fw none) 0 Go.Proofs.Try.prog (subC (Go.Proofs.Try.f10.body.getD .skip) [1, 1, 1, 1, 1, 1, 1]) (bodyPost Go.Proofs.Try.prog Go.Proofs.Try.f10 PO) ⟨#[.slice ao t.length cap, .int .i64 row, x2, x3, x4, ov, .slice va wt.length vc, x7, x8, x9, x10, x11, x12, x13, x14, x15, x16, x17, x18, x19, x20, x21, x22, x23, x24, x25, x26, x27, x28, x29, x30, x31, x32, x33, x34, x35, x36, x37, x38, x39, x40, x41, x42, x43, x44, x45, x46, x47, x48, x49, x50, x51, x52, x53, x54, x55, x56, x57, x58, x59, x60, x61, x62, x63, x64, x65, x66, x67, x68, x69, x70, x71, x72, x73, x74, x75, x76, x77, x78, x79, x80, x81, x82, x83, x84, x85, x86, x87, x88, x89, x90, x91, x92, x93], []⟩ W := by
  refine wpIn_seq (wpIn_seq (ql_region rfl ?_))
  simp [ql, go_sem, Exit.then]
  refine wpIn_block (wp_loopAt ?_)
  have s2 := hb02.size
  obtain ⟨A, hA⟩ : ∃ A : Nat → Act → World → Prop, A = fun m a W => ∃ x1 x2 x3 x4 x7 x8 x9 x10 x11 x12 x13 x15 x16 x17 x18 x19 x20 x21 x22 x23 x24 x25 x26 x27 x28 x29 x30 x31 x32 x33 x34 x35 x36 x37 x38 x39 x40 x41 x42 x43 x44 x45 x46 x47 x48 x49 x50 x51 x52 x53 x54 x55 x56 x57 x58 x59 x60 x61 x62 x63 x64 x65 x66 x67 x68 x69 x70 x71 x72 x73 x74 x75 x76 x77 x78 x79 x80 x81 x82 x83 x84 x85 x86 x87 x88 x89 x90 x91 x92 x93 : Value, ∃ t' : Ste, a = ⟨#[.slice ao t.length cap, x1, x2, x3, x4, ov, .slice va wt.length vc, x7, x8, x9, x10, x11, x12, x13, .int .i64 m, x15, x16, x17, x18, x19, x20, x21, x22, x23, x24, x25, x26, x27, x28, x29, x30, x31, x32, x33, x34, x35, x36, x37, x38, x39, x40, x41, x42, x43, x44, x45, x46, x47, x48, x49, x50, x51, x52, x53, x54, x55, x56, x57, x58, x59, x60, x61, x62, x63, x64, x65, x66, x67, x68, x69, x70, x71, x72, x73, x74, x75, x76, x77, x78, x79, x80, x81, x82, x83, x84, x85, x86, x87, x88, x89, x90, x91, x92, x93], []⟩ ∧ t'.length = wt.length ∧ NestW W2.heap.size W t' (.slice va wt.length vc) ob vs os ∧ Below W2.heap.size W2 W := ⟨_, rfl⟩
  refine loop_upX (n := wt.length) A ?_ ?_ 0 (by omega) _ _ (by rw [hA]; exact ⟨_, _, _, _, _, _, _, _, _, _, _, _, _, _, _, _, _, _, _, _, _, _, _, _, _, _, _, _, _, _, _, _, _, _, _, _, _, _, _, _, _, _, _, _, _, _, _, _, _, _, _, _, _, _, _, _, _, _, _, _, _, _, _, _, _, _, _, _, _, _, _, _, _, _, _, _, _, _, _, _, _, _, _, _, _, _, _, _, _, _, wt, rfl, rfl, hN, hb⟩)
  · intro a W hh
    rw [hA] at hh
    obtain ⟨x1, x2, x3, x4, x7, x8, x9, x10, x11, x12, x13, x15, x16, x17, x18, x19, x20, x21, x22, x23, x24, x25, x26, x27, x28, x29, x30, x31, x32, x33, x34, x35, x36, x37, x38, x39, x40, x41, x42, x43, x44, x45, x46, x47, x48, x49, x50, x51, x52, x53, x54, x55, x56, x57, x58, x59, x60, x61, x62, x63, x64, x65, x66, x67, x68, x69, x70, x71, x72, x73, x74, x75, x76, x77, x78, x79, x80, x81, x82, x83, x84, x85, x86, x87, x88, x89, x90, x91, x92, x93, t', rfl, hl, hN, hb⟩ := hh
    refine wpIn_seq (wpIn_seq (ql_region rfl ?_))
    simp [ql, go_sem, Exit.then]
    refine wpIn_cond_false (by simp [Act.eval]) (wpIn_exit ?_)
    simp only [Exit.then, Exit.inBlock, if_true]
    have hb0W : Below w.heap.size w W := hb02.trans (hb.mono s2)
    have o1 : (reps Go.Proofs.Try.prog tSte).c W (fun _ => True) t [ov] := c_keep tSte hOd ⟨hb.size, fun b hb' _ => hb.block b hb'.lt⟩ fun _ _ h => h
    refine wpIn_seq (qlg_region ?_)
    simp [qlg, Region.wanted, yielded, go_sem, Exit.then]
    refine (sameS_call o1 (keepT hb0W) (by omega) (by omega)).mono ?_
    rintro e W8 ⟨rfl, hb8⟩
    have hb08 := hb0W.trans (hb8.mono hb0W.size)
    simp [qlg, Region.wanted, yielded, go_sem, Exit.then]
    refine saneS_call.mono ?_
    rintro e W9 ⟨rfl, hb9⟩
    have hb09 := hb08.trans (hb9.mono hb08.size)
    simp [qlg, Region.wanted, yielded, go_sem, Exit.then]
    refine wpIn_ret ?_
    exact ⟨rfl, .bool true, by simp [results, Go.Proofs.Try.results10, go_sem], hpost _ hb09⟩
  · intro m a W hm hh
    rw [hA] at hh
    obtain ⟨x1, x2, x3, x4, x7, x8, x9, x10, x11, x12, x13, x15, x16, x17, x18, x19, x20, x21, x22, x23, x24, x25, x26, x27, x28, x29, x30, x31, x32, x33, x34, x35, x36, x37, x38, x39, x40, x41, x42, x43, x44, x45, x46, x47, x48, x49, x50, x51, x52, x53, x54, x55, x56, x57, x58, x59, x60, x61, x62, x63, x64, x65, x66, x67, x68, x69, x70, x71, x72, x73, x74, x75, x76, x77, x78, x79, x80, x81, x82, x83, x84, x85, x86, x87, x88, x89, x90, x91, x92, x93, t', rfl, hl, hN, hb⟩ := hh
    refine wpIn_seq (wpIn_seq (ql_region rfl ?_))
    simp [ql, go_sem, Exit.then]
    refine wpIn_cond_true (by simp [Act.eval]; omega) (wpIn_skip ?_)
    simp only [Exit.then]
    refine wpIn_seq (wpIn_block (wpIn_seq (ql_region rfl ?_)))
    simp [ql, go_sem, Exit.then]
    refine wpIn_block (wp_loopAt ?_)
    obtain ⟨e22, t1, t2⟩ := ty_sl ((tyB_ok Go.Proofs.Try.prog tSte).1 22 (by kernel_rfl))
    obtain ⟨e25, t3, t4⟩ := ty_sl ((tyB_ok Go.Proofs.Try.prog tInts).1 25 (by kernel_rfl))
    have hmt : m < t'.length := by omega
    obtain ⟨bo, off, cap', cur, et, rfl, hva, k1, k2, k3, k4⟩ := own_out hN.out (j := m) (by rw [hN.lenv]; exact hmt)
    rw [hN.lenv, hl] at hva
    cases hva
    have hix := fun W : World => run_index_sl (w := W) t1 t2 (b := bo) (off := off) (len := wt.length) (cap := vc) (n := (m : Int)) (by omega) (by omega)
    rw [Int.toNat_natCast, show T.csize tInts = 1 from rfl, Nat.mul_one] at hix
    obtain ⟨L, hL⟩ : ∃ L, L = (t'.getD m []).length := ⟨_, rfl⟩
    have hLm : L ≤ 140737488355328 := by
      rw [hL]
      rcases hN.row m hmt with ⟨_, e, _⟩ | ⟨_, _, _, _, _, _, _, _, _, _, g, _⟩
      · rw [e]; simp
      · exact g.1
    obtain ⟨ra, rc, hrv⟩ : ∃ ra rc, vs.getD m undef = .slice ra L rc := by
      rcases hN.row m hmt with ⟨g, e, _⟩ | ⟨b, off, cap, cur, e, _, g, _⟩
      · rw [e] at hL; exact ⟨none, 0, by rw [g, hL]; rfl⟩
      · exact ⟨_, _, by rw [g, hL]⟩
    have hcell : ∀ (W : World) (t'' : Ste), t''.length = wt.length → NestW W2.heap.size W t'' (.slice (some ⟨bo, off, none⟩) wt.length vc) (some (bo, off)) vs os → W.cell? ⟨bo, off + m, none⟩ = some (.slice ra L rc) := by
      intro W t'' hl'' hN''
      obtain ⟨bo2, off2, _, cur2, et2, e1, _, q1, q2, q3, _⟩ := own_out hN''.out (j := m) (by rw [hN''.lenv]; omega)
      cases e1
      rw [row_cell q1, q3, hrv]
    clear k1 k2 k3 k4
    obtain ⟨B, hB⟩ : ∃ B : Nat → Act → World → Prop, B = fun k a W => ∃ x1 x2 x3 x4 x7 x8 x9 x10 x11 x12 x13 x16 x17 x18 x19 x20 x21 x22 x23 x24 x25 x26 x27 x28 x29 x30 x31 x32 x33 x34 x35 x36 x37 x38 x39 x40 x41 x42 x43 x44 x45 x46 x47 x48 x49 x50 x51 x52 x53 x54 x55 x56 x57 x58 x59 x60 x61 x62 x63 x64 x65 x66 x67 x68 x69 x70 x71 x72 x73 x74 x75 x76 x77 x78 x79 x80 x81 x82 x83 x84 x85 x86 x87 x88 x89 x90 x91 x92 x93 : Value, ∃ t'' : Ste, a = ⟨#[.slice ao t.length cap, x1, x2, x3, x4, ov, .slice (some ⟨bo, off, none⟩) wt.length vc, x7, x8, x9, x10, x11, x12, x13, .int .i64 m, .int .i64 k, x16, x17, x18, x19, x20, x21, x22, x23, x24, x25, x26, x27, x28, x29, x30, x31, x32, x33, x34, x35, x36, x37, x38, x39, x40, x41, x42, x43, x44, x45, x46, x47, x48, x49, x50, x51, x52, x53, x54, x55, x56, x57, x58, x59, x60, x61, x62, x63, x64, x65, x66, x67, x68, x69, x70, x71, x72, x73, x74, x75, x76, x77, x78, x79, x80, x81, x82, x83, x84, x85, x86, x87, x88, x89, x90, x91, x92, x93], []⟩ ∧ t''.length = wt.length ∧ (t''.getD m []).length = L ∧ NestW W2.heap.size W t'' (.slice (some ⟨bo, off, none⟩) wt.length vc) (some (bo, off)) vs os ∧ Below W2.heap.size W2 W := ⟨_, rfl⟩
    refine loop_upX (n := L) B ?_ ?_ 0 (by omega) _ _ (by rw [hB]; exact ⟨_, _, _, _, _, _, _, _, _, _, _, _, _, _, _, _, _, _, _, _, _, _, _, _, _, _, _, _, _, _, _, _, _, _, _, _, _, _, _, _, _, _, _, _, _, _, _, _, _, _, _, _, _, _, _, _, _, _, _, _, _, _, _, _, _, _, _, _, _, _, _, _, _, _, _, _, _, _, _, _, _, _, _, _, _, _, _, _, _, t', rfl, hl, hL.symm, hN, hb⟩)
    · intro a W hh
      rw [hB] at hh
      obtain ⟨x1, x2, x3, x4, x7, x8, x9, x10, x11, x12, x13, x16, x17, x18, x19, x20, x21, x22, x23, x24, x25, x26, x27, x28, x29, x30, x31, x32, x33, x34, x35, x36, x37, x38, x39, x40, x41, x42, x43, x44, x45, x46, x47, x48, x49, x50, x51, x52, x53, x54, x55, x56, x57, x58, x59, x60, x61, x62, x63, x64, x65, x66, x67, x68, x69, x70, x71, x72, x73, x74, x75, x76, x77, x78, x79, x80, x81, x82, x83, x84, x85, x86, x87, x88, x89, x90, x91, x92, x93, t'', rfl, hl2, hL2, hN, hb⟩ := hh
      have hc := hcell W t'' hl2 hN
      refine wpIn_seq (wpIn_seq (ql_region rfl ?_))
      simp [ql, go_sem, Exit.then, hix, hc]
      refine wpIn_cond_false (by simp [Act.eval]) (wpIn_exit ?_)
      simp only [Exit.then, Exit.inBlock, if_true]
      refine ql_region rfl ?_
      simp [ql, go_sem, Exit.then, Exit.inBlock]
      rw [show IntKind.i64.wrap ((m : Int) + 1) = ((m + 1 : Nat) : Int) from wrap_in (by unfold inI; omega), hA]
      exact ⟨_, _, _, _, _, _, _, _, _, _, _, _, _, _, _, _, _, _, _, _, _, _, _, _, _, _, _, _, _, _, _, _, _, _, _, _, _, _, _, _, _, _, _, _, _, _, _, _, _, _, _, _, _, _, _, _, _, _, _, _, _, _, _, _, _, _, _, _, _, _, _, _, _, _, _, _, _, _, _, _, _, _, _, _, _, _, _, _, _, _, t'', rfl, hl2, hN, hb⟩
    · intro k a W hk hh
      rw [hB] at hh
      obtain ⟨x1, x2, x3, x4, x7, x8, x9, x10, x11, x12, x13, x16, x17, x18, x19, x20, x21, x22, x23, x24, x25, x26, x27, x28, x29, x30, x31, x32, x33, x34, x35, x36, x37, x38, x39, x40, x41, x42, x43, x44, x45, x46, x47, x48, x49, x50, x51, x52, x53, x54, x55, x56, x57, x58, x59, x60, x61, x62, x63, x64, x65, x66, x67, x68, x69, x70, x71, x72, x73, x74, x75, x76, x77, x78, x79, x80, x81, x82, x83, x84, x85, x86, x87, x88, x89, x90, x91, x92, x93, t'', rfl, hl2, hL2, hN, hb⟩ := hh
      have hc := hcell W t'' hl2 hN
      refine wpIn_seq (wpIn_seq (ql_region rfl ?_))
      simp [ql, go_sem, Exit.then, hix, hc]
      refine wpIn_cond_true (by simp [Act.eval]; omega) (wpIn_skip ?_)
      simp only [Exit.then]
      have hmt2 : m < t''.length := by omega
      obtain ⟨b3, off3, cap3, cur3, et3, hos, hv3, q1, q2, q3⟩ := row_out (hN.row m hmt2) (k := k) (by rw [hL2]; exact hk)
      have hlo3 := (own_lt (hos ▸ hN.row m hmt2)).2
      have hv4 := hrv.symm.trans hv3
      injection hv4 with hra _ hrc
      subst hra
      have hix2 := fun W : World => run_index_sl (w := W) t3 t4 (b := b3) (off := off3) (len := L) (cap := rc) (n := (k : Int)) (by omega) (by omega)
      rw [Int.toNat_natCast, show T.csize T.int = 1 from rfl, Nat.mul_one] at hix2
      have cc3 : W.cell? ⟨b3, off3 + k, none⟩ = some cur3[off3 + k] := by rw [row_cell q1, Array.getElem?_eq_getElem q2]
      have cf3 : W.frozen? ⟨b3, off3 + k, none⟩ = false := row_warm q1
      refine wpIn_seq (wpIn_block (ql_region rfl ?_))
      simp [ql, go_sem, Exit.then, Exit.inBlock, hix, hc, hix2, cc3, cf3]
      rw [setCell_eq_setRow W b3 (off3 + k) cur3 et3 (0, 0) _ q1]
      refine ql_region rfl ?_
      simp [ql, go_sem, Exit.then, Exit.inBlock]
      rw [show IntKind.i64.wrap ((k : Int) + 1) = ((k + 1 : Nat) : Int) from wrap_in (by unfold inI; omega), hB]
      have hrow6 := setRow_heap W b3 _ (cur3.setIfInBounds (off3 + k) (.int .i64 (-1))) _ _ q1
      have hr6 := q3 _ (-1) (by unfold inI; omega) hrow6
      rw [hos] at hr6
      have hN6 := hN.put hmt2 hb.size hos (own_S hr6 fun _ _ _ => trivial)
      refine ⟨_, _, _, _, _, _, _, _, _, _, _, _, _, _, _, _, _, _, _, _, _, _, _, _, _, _, _, _, _, _, _, _, _, _, _, _, _, _, _, _, _, _, _, _, _, _, _, _, _, _, _, _, _, _, _, _, _, _, _, _, _, _, _, _, _, _, _, _, _, _, _, _, _, _, _, _, _, _, _, _, _, _, _, _, _, _, _, _, _, _, rfl, by rw [List.length_set]; exact hl2, ?_, hN6, ⟨hb.os, hb.tape, hb.output, by rw [setRow_size]; exact hb.size, fun i hi => ?_⟩⟩
      · rw [getD_set _ _ _ _ _ hmt2, if_pos rfl, List.length_set, hL2]
      · rw [setRow_other _ _ _ _ (by omega)]
        exact hb.block i hi
end Go.Tk
