/- Merged: C4f C4g P1r C1r C1q P2 C2 P2t C2t C4h C4i C4j P4p P4q P4r P4s C7q. -/
import Derived.Test.YthjkkjnnkkekeaaMg1
/- The edits of a table. -/
set_option linter.unusedSimpArgs false
set_option linter.unusedVariables false
set_option linter.unnecessarySimpa false
set_option maxRecDepth 10000
set_option maxHeartbeats 400000
namespace Go.Tk
open Go Go.RowKit
theorem arr24 (x : Array Value) (h : x.size = 24) : ∃ x0 x1 x2 x3 x4 x5 x6 x7 x8 x9 x10 x11 x12 x13 x14 x15 x16 x17 x18 x19 x20 x21 x22 x23 : Value, x = #[x0, x1, x2, x3, x4, x5, x6, x7, x8, x9, x10, x11, x12, x13, x14, x15, x16, x17, x18, x19, x20, x21, x22, x23] := by
  obtain ⟨l⟩ := x
  match l, h with
  | [x0, x1, x2, x3, x4, x5, x6, x7, x8, x9, x10, x11, x12, x13, x14, x15, x16, x17, x18, x19, x20, x21, x22, x23], _ => exact ⟨_, _, _, _, _, _, _, _, _, _, _, _, _, _, _, _, _, _, _, _, _, _, _, _, rfl⟩
def kvA (d : Nat) (v : Value) : Nat → Option Value := fun t => if t = d then some v else none
theorem kvA_at {d t : Nat} {v u : Value} (h : kvA d v t = some u) : t = d ∧ u = v := by
  unfold kvA at h
  split at h
  · rename_i e; cases h; exact ⟨e, rfl⟩
  · cases h
theorem kvA_no {d t : Nat} {v : Value} (h : t ≠ d) : kvA d v t = none := by unfold kvA; rw [if_neg h]
abbrev tInts : T := .sl .int
theorem ln_rep {W : World} {S : Nat → Prop} {l : Lin} (hl : inL l) : (reps Go.Proofs.Try.prog tL).c W S l [.int .i64 l.1, .int .i64 l.2.1, .int .i64 l.2.2.1, .int .i64 l.2.2.2.1] :=
  ⟨[_], [_, _, _], rfl, ⟨rfl, hl.1⟩, [_], [_, _], rfl, ⟨rfl, hl.2.1⟩, [_], [_], rfl, ⟨rfl, hl.2.2.1⟩, [_], [], rfl, ⟨rfl, hl.2.2.2⟩, rfl⟩
/-- What a function that hands back an own slice leaves. -/
def ownRes (w : World) (xs : List Edt) (v : Value) (W : World) : Prop := ∃ ob : Option (Nat × Nat), repOwn ((reps Go.Proofs.Try.prog tEd).c W fun b => w.heap.size ≤ b ∧ ¬ b ∈ (ob.map (·.1)).toList) 5 W (fun _ => True) xs v ob ∧ ∀ b ∈ (ob.map (·.1)).toList, w.heap.size ≤ b
theorem patch_call {w : World} {b : Nat} {E : List (Int × Lin)} (hT : ownsT w b E) (hl : E.length ≤ 1000) : Calls Go.Proofs.Try.prog 124 #[.map (some b)] w fun e w' => ∃ v, e = .returned v ∧ ownRes w (editE E) v w' ∧ Below w.heap.size w w' := by
  have hbl := hT.lt
  have hk : Cok Go.Proofs.Try.prog ⟨[], Th, 24, noX⟩ := cok_of trivial (by kernel_rfl) th_ok
  obtain ⟨kb, hkb⟩ : ∃ kb : Nat → Prop, kb = fun k => k = b := ⟨_, rfl⟩
  refine calls_of_wp Go.Proofs.Try.func124 rfl ?_
  rw [Go.Proofs.Try.ntmps124]
  refine (wpIn_wide (n := 0)).1 ?_
  show Code.wpIn (Fw none) 0 _ _ _ _ _
  have hR := rel_zero (P := Go.Proofs.Try.prog) (w := w) (n := 24) (S := fun _ => True) (kv := kvA 0 (.map (some b))) (kb := kb) (a := ⟨#[.map (some b)] ++ Array.replicate (24 - #[Value.map (some b)].size) undef, []⟩) (by simp) rfl (fun t v h => by obtain ⟨rfl, rfl⟩ := kvA_at h; simp) (fun k hk => by rw [hkb] at hk; omega)
  refine eng_to hk mix_ok rfl rfl (ly := [([1, 2], ⟨[(3, true)], [(3, true)]⟩)]) hR (by kernel_rfl) (fun t ht => kvA_no fun e => ?_) (fun Λ hΛ => ?_)
  · rw [e] at ht
    revert ht
    decide
  have h0 : Λ [1, 2] ([(3, .own 3 0)], [(3, .sl true tEd ([] : List Edt))]) := by
    subst hΛ
    intro a W hR
    have hbW : Below w.heap.size w W := hR.low
    have hTW := hT.kept (hR.kept (by rw [hkb]))
    obtain ⟨tm, df⟩ := a
    obtain rfl : df = [] := hR.nd.2 rfl
    obtain ⟨x0, x1, x2, x3, x4, x5, x6, x7, x8, x9, x10, x11, x12, x13, x14, x15, x16, x17, x18, x19, x20, x21, x22, x23, rfl⟩ := arr24 tm hR.sz
    obtain rfl : x0 = .map (some b) := hR.kp 0 _ rfl
    show Code.wpIn (Fw none) 0 _ _ _ _ _
    refine wpIn_seq (wpIn_seq (ql_region rfl ?_))
    simp [ql, go_sem, Exit.then]
    refine keys_call.mono ?_
    rintro e W1 ⟨rfl, rfl⟩
    simp [ql, go_sem, Exit.then]
    refine (sorted_call hTW hl).mono ?_
    rintro e W2 ⟨v, rfl, hks, hb2⟩
    obtain ⟨ka, kc, ekv⟩ : ∃ ao c, v = .slice ao E.length c := by
      obtain ⟨u, e, ao, c, e2, _⟩ := hks
      cases e
      rw [List.length_map] at e2
      exact ⟨ao, c, e2⟩
    subst ekv
    simp [ql, go_sem, Exit.then]
    have hnI : inI (E.length : Int) := by unfold inI; omega
    have hok := hT.ok
    have hR2 := rel_new (kv' := kvA 0 (.map (some b))) (w' := W2) (E' := [(3, .own 3 0), (8, .d true tInts (E.map (·.1))), (9, .d true .int (E.length : Int)), (10, .d true .int 0)])
      (a' := ⟨#[.map (some b), x1, x2, x3, x4, x5, .map (some b), .func (.func 145) #[] #[.pointer (some ⟨W.heap.size, 0, none⟩)], .slice ka E.length kc, .int .i64 E.length, .int .i64 0, x11, x12, x13, x14, x15, x16, x17, x18, x19, x20, x21, x22, x23], []⟩) hR noIt1 hb2 rfl rfl (fun t v h => by obtain ⟨rfl, rfl⟩ := kvA_at h; rfl) (fun t U hU => by
        have hk7 := lk_key hU
        simp at hk7
        rcases hk7 with rfl | rfl | rfl | rfl
        · exact .inl ⟨3, hU, rfl⟩
        · cases hU
          exact .inr fun G hG => ⟨[.slice ka E.length kc], rfl, c_mono tInts hks fun k _ hk => hG k hk⟩
        · cases hU
          exact .inr fun G hG => ⟨[.int .i64 E.length], rfl, rfl, hnI⟩
        · cases hU
          exact .inr fun G hG => ⟨[.int .i64 0], rfl, rfl, by unfold inI; omega⟩)
    clear hR hks
    obtain ⟨A, hA⟩ : ∃ A : Nat → Act → World → Prop, A = fun (m : Nat) (a : Act) (Wc : World) => Rel Go.Proofs.Try.prog (hB w.heap.size (fun _ => True) (kvA 0 (.map (some b))) kb fun b => Wc.heap[b]?) w 24 (mkSt ([(3, .own 3 0), (8, .d true tInts (E.map (·.1))), (9, .d true .int (E.length : Int)), (10, .d true .int (m : Int))], [(3, .sl true tEd (editE (E.take m)))])) a Wc ∧ ownsT Wc b E := ⟨_, rfl⟩
    refine wpIn_block (wp_loopAt (loop_upX (n := E.length) A ?_ ?_ 0 (Nat.zero_le _) _ _ (by rw [hA]; exact ⟨hR2, hTW.kept (hb2.block b hTW.lt)⟩)))
    · intro a Wc hh
      rw [hA] at hh
      obtain ⟨hR, hTc⟩ := hh
      refine wpIn_seq (eng_thru hk mix_ok rfl rfl (ly := ⟨[(3, true), (11, true)], [(3, true)]⟩) (x := ([(3, .own 3 0), (11, .d true .bool (decide ((E.length : Int) < (E.length : Int))))], [(3, .sl true tEd (editE (E.take E.length)))])) hR (by kernel_rfl) (fun t ht => kvA_no fun e => ?_) ?_ ?_)
      · rw [e] at ht
        revert ht
        decide
      · have h0 : (([(3, V.own 3 0), (11, .d true .bool (decide ((E.length : Int) < (E.length : Int))))], [(3, L.sl true tEd (editE (E.take E.length)))]) : Lst) = ([(3, .own 3 0), (11, .d true .bool (decide ((E.length : Int) < (E.length : Int))))], [(3, .sl true tEd (editE (E.take E.length)))]) := rfl
        exact Eq.mpr (by kernel_rfl) h0
      · intro a W3 hR3
        simp only [Exit.then]
        have hb0 := rel_bool hR3 (d := 11) rfl
        refine wpIn_seq (wpIn_cond_false (by rw [hb0]; simp) (wpIn_exit ?_))
        simp only [Exit.then, Exit.inBlock, if_true]
        obtain ⟨tm, df⟩ := a
        obtain rfl : df = [] := hR3.nd.2 rfl
        obtain ⟨y0, y1, y2, y3, y4, y5, y6, y7, y8, y9, y10, y11, y12, y13, y14, y15, y16, y17, y18, y19, y20, y21, y22, y23, rfl⟩ := arr24 tm hR3.sz
        rw [List.take_length] at hR3
        obtain ⟨ob, hown, hob⟩ := rel_own hR3 (d := 3) (k := 3) rfl rfl
        refine wpIn_seq (ql_region rfl ?_)
        simp [ql, go_sem, Exit.then]
        refine wpIn_ret ?_
        exact ⟨rfl, _, results_tmp rfl _ _ _, y3, rfl, ⟨ob, hown, hob⟩, hR3.low⟩
    · intro m a Wc hm hh
      rw [hA] at hh
      obtain ⟨hR, hTc⟩ := hh
      refine wpIn_seq (eng_thru hk mix_ok rfl rfl (ly := ⟨[(3, true), (8, true), (9, true), (10, true), (11, true)], [(3, true)]⟩) (x := ([(3, .own 3 0), (8, .d true tInts (E.map (·.1))), (9, .d true .int (E.length : Int)), (10, .d true .int (m : Int)), (11, .d true .bool (decide ((m : Int) < (E.length : Int))))], [(3, .sl true tEd (editE (E.take m)))])) hR (by kernel_rfl) (fun t ht => kvA_no fun e => ?_) ?_ ?_)
      · rw [e] at ht
        revert ht
        decide
      · have h0 : (([(3, V.own 3 0), (8, .d true tInts (E.map (·.1))), (9, .d true .int (E.length : Int)), (10, .d true .int (m : Int)), (11, .d true .bool (decide ((m : Int) < (E.length : Int))))], [(3, L.sl true tEd (editE (E.take m)))]) : Lst) = ([(3, .own 3 0), (8, .d true tInts (E.map (·.1))), (9, .d true .int (E.length : Int)), (10, .d true .int (m : Int)), (11, .d true .bool (decide ((m : Int) < (E.length : Int))))], [(3, .sl true tEd (editE (E.take m)))]) := rfl
        exact Eq.mpr (by kernel_rfl) h0
      · intro a W3 hR3
        have hT3 := hTc.kept (hR3.kept (by rw [hkb]))
        simp only [Exit.then]
        have hb0 := rel_bool hR3 (d := 11) rfl
        refine wpIn_seq (wpIn_cond_true (by rw [hb0]; simp; omega) (wpIn_skip ?_))
        simp only [Exit.then]
        refine wpIn_seq (wpIn_block (wpIn_seq (eng_thru hk mix_ok rfl rfl (ly := ⟨[(3, true), (5, true), (8, true), (9, true), (10, true)], [(3, true)]⟩) (x := ([(3, .own 3 0), (5, .d true .int (List.getD (E.map (·.1)) (Int.toNat (m : Int)) 0)), (8, .d true tInts (E.map (·.1))), (9, .d true .int (E.length : Int)), (10, .d true .int (m : Int))], [(3, .sl true tEd (editE (E.take m)))])) hR3 (by kernel_rfl) (fun t ht => kvA_no fun e => ?_) ?_ ?_)))
        · rw [e] at ht
          revert ht
          decide
        · have h0 : idx (m : Int) ((E.map (·.1)).length : Int) ∧ (([(3, V.own 3 0), (5, .d true .int (List.getD (E.map (·.1)) (Int.toNat (m : Int)) 0)), (8, .d true tInts (E.map (·.1))), (9, .d true .int (E.length : Int)), (10, .d true .int (m : Int))], [(3, L.sl true tEd (editE (E.take m)))]) : Lst) = ([(3, .own 3 0), (5, .d true .int (List.getD (E.map (·.1)) (Int.toNat (m : Int)) 0)), (8, .d true tInts (E.map (·.1))), (9, .d true .int (E.length : Int)), (10, .d true .int (m : Int))], [(3, .sl true tEd (editE (E.take m)))]) := ⟨by rw [List.length_map]; unfold idx; omega, rfl⟩
          exact Eq.mpr (by kernel_rfl) h0
        · intro a W4 hR4
          have hT4 := hTc.kept (hR4.kept (by rw [hkb]))
          obtain ⟨k, l, hkl⟩ : ∃ k l, E[m]? = some (k, l) := ⟨E[m].1, E[m].2, by rw [List.getElem?_eq_getElem hm]⟩
          have hmem : (k, l) ∈ E := List.mem_of_getElem? hkl
          have hlk : lookE E k = some l := (look_mem hT.asc).2 hmem
          obtain ⟨hkI, hlI⟩ := hok _ hmem
          have hget : List.getD (E.map (·.1)) (Int.toNat (m : Int)) 0 = k := by
            rw [Int.toNat_natCast, List.getD_eq_getElem?_getD, List.getElem?_map, hkl]; rfl
          rw [hget] at hR4
          obtain ⟨tm, df⟩ := a
          obtain rfl : df = [] := hR4.nd.2 rfl
          obtain ⟨y0, y1, y2, y3, y4, y5, y6, y7, y8, y9, y10, y11, y12, y13, y14, y15, y16, y17, y18, y19, y20, y21, y22, y23, rfl⟩ := arr24 tm hR4.sz
          obtain rfl : y0 = .map (some b) := hR4.kp 0 _ rfl
          obtain rfl : y5 = .int .i64 k := (rel_int hR4 (d := 5) rfl).1
          have hlook := hT4.look hkI
          rw [hlk] at hlook
          simp only [lnV, Option.getD_some] at hlook
          simp only [Exit.then]
          refine ql_pre 5 (by decide) rfl ?_
          simp [ql, go_sem, hlook]
          have hR5 := rel_new (kv' := kvA 0 (.map (some b))) (w' := W4) (E' := [(3, .own 3 0), (8, .d true tInts (E.map (·.1))), (9, .d true .int (E.length : Int)), (10, .d true .int (m : Int)), (14, .own 3 0), (15, .d true .int k), (18, .d true tL l)])
            (a' := ⟨#[.map (some b), y1, y2, y3, y4, .int .i64 k, y6, y7, y8, y9, y10, y11, y12, y13, y3, .int .i64 k, .map (some b), .int .i64 k, .agg #[.int .i64 l.1, .int .i64 l.2.1, .int .i64 l.2.2.1, .int .i64 l.2.2.2.1], y19, y20, y21, y22, y23], []⟩) hR4 noIt1 (Below.refl _ _) rfl rfl (fun t v h => by obtain ⟨rfl, rfl⟩ := kvA_at h; rfl) (fun t U hU => by
              have hk7 := lk_key hU
              simp at hk7
              rcases hk7 with rfl | rfl | rfl | rfl | rfl | rfl | rfl
              · exact .inl ⟨3, hU, rfl⟩
              · exact .inl ⟨8, hU, rfl⟩
              · exact .inl ⟨9, hU, rfl⟩
              · exact .inl ⟨10, hU, rfl⟩
              · exact .inl ⟨3, hU, rfl⟩
              · cases hU
                exact .inr fun G hG => ⟨[.int .i64 k], rfl, rfl, hkI⟩
              · cases hU
                exact .inr fun G hG => ⟨_, rfl, ln_rep hlI⟩)
          have hel : (editE (E.take m)).length ≤ 1000 := by simp [editE]; omega
          have hsnoc : editE (E.take m) ++ [(k, l, ())] = editE (E.take (m + 1)) := by
            unfold editE
            rw [List.take_add_one, hkl, List.map_append]
            rfl
          rw [← List.append_nil (List.range' 5 4)]
          refine stretch_wp hk hR5 rfl 5 4 (fun o ho d hd => kvA_no fun e => ?_) (by kernel_rfl) (by kernel_rfl) (Φ := fun st => canK ⟨[(3, true), (8, true), (9, true), (10, true)], [(3, true)]⟩ (fun y => y = ([(3, .own 3 0), (8, .d true tInts (E.map (·.1))), (9, .d true .int (E.length : Int)), (10, .d true .int (m : Int))], [(3, .sl true tEd (editE (E.take m) ++ [(k, l, ())]))])) st) ?_ (fun st a W5 hΦ hR6 => ?_)
          · subst e
            revert hd
            revert o
            decide
          · have h0 : (List.length (editE (E.take m)) + List.length [(k, l, ())] ≤ 4294967296) ∧ (([(3, V.own 3 0), (8, .d true tInts (E.map (·.1))), (9, .d true .int (E.length : Int)), (10, .d true .int (m : Int))], [(3, L.sl true tEd (editE (E.take m) ++ [(k, l, ())]))]) : Lst) = ([(3, .own 3 0), (8, .d true tInts (E.map (·.1))), (9, .d true .int (E.length : Int)), (10, .d true .int (m : Int))], [(3, .sl true tEd (editE (E.take m) ++ [(k, l, ())]))]) := ⟨by simp; omega, rfl⟩
            exact Eq.mpr (by kernel_rfl) h0
          · obtain ⟨_, rfl, hR7⟩ := canK_ok hΦ hR6
            rw [hsnoc] at hR7
            show Exit.inBlock 1 _ .normal a W5
            simp only [Exit.inBlock, Exit.then]
            refine eng_thru hk mix_ok rfl rfl (ly := ⟨[(3, true), (8, true), (9, true), (10, true)], [(3, true)]⟩) (x := ([(3, .own 3 0), (8, .d true tInts (E.map (·.1))), (9, .d true .int (E.length : Int)), (10, .d true .int ((m : Int) + 1))], [(3, .sl true tEd (editE (E.take (m + 1))))])) hR7 (by kernel_rfl) (fun t ht => kvA_no fun e => ?_) ?_ ?_
            · rw [e] at ht
              revert ht
              decide
            · have h0 : inI ((m : Int) + 1) ∧ (([(3, V.own 3 0), (8, .d true tInts (E.map (·.1))), (9, .d true .int (E.length : Int)), (10, .d true .int ((m : Int) + 1))], [(3, L.sl true tEd (editE (E.take (m + 1))))]) : Lst) = ([(3, .own 3 0), (8, .d true tInts (E.map (·.1))), (9, .d true .int (E.length : Int)), (10, .d true .int ((m : Int) + 1))], [(3, .sl true tEd (editE (E.take (m + 1))))]) := ⟨by unfold inI; omega, rfl⟩
              exact Eq.mpr (by kernel_rfl) h0
            · intro a W6 hR8
              simp only [Exit.then]
              rw [hA]
              exact ⟨hR8.now noIt1, hTc.kept ((hR8.kept (by rw [hkb])).trans (hR4.kept (by rw [hkb])))⟩
  exact Eq.mpr (by kernel_rfl) h0
end Go.Tk
/- The edits of a table, if they are not too many. -/
set_option linter.unusedSimpArgs false
set_option linter.unusedVariables false
set_option linter.unnecessarySimpa false
set_option maxRecDepth 10000
set_option maxHeartbeats 400000
namespace Go.Tk
open Go Go.RowKit
theorem ownRes_nil (w W : World) : ownRes w [] (.slice none 0 0) W := ⟨none, .inl ⟨rfl, rfl, rfl⟩, fun b hb => by simp at hb⟩
theorem limited_call {w : World} {b : Nat} {E : List (Int × Lin)} (hT : ownsT w b E) (hl : E.length ≤ 1000) : Calls Go.Proofs.Try.prog 110 #[.map (some b)] w fun e w' => ∃ v, e = .returned (.tuple #[v, .int .i64 (if E.length > 4 then 3 else 0)]) ∧ ownRes w (if E.length > 4 then [] else editE E) v w' ∧ Below w.heap.size w w' := by
  have hlen := hT.len 3
  go_enter Go.Proofs.Try.func110, Go.Proofs.Try.ntmps110
  refine (wpIn_wide (n := 0)).1 ?_
  show Code.wpIn (Fw none) 0 _ _ _ _ _
  refine wpIn_seq (ql_region rfl ?_)
  simp [ql, go_sem, Exit.then]
  refine wpIn_seq (wpIn_seq (ql_region rfl ?_))
  simp [ql, go_sem, Exit.then, hlen]
  by_cases h4 : 4 < E.length
  · refine wpIn_cond_true (by simp [Act.eval]; omega) (wpIn_seq (ql_region rfl ?_))
    simp [ql, go_sem, Exit.then]
    refine wpIn_ret ?_
    refine ⟨rfl, .tuple #[.slice none 0 0, .int .i64 3], ?_, .slice none 0 0, ?_, ?_, Below.refl _ _⟩
    · simp [results, Go.Proofs.Try.results110, go_sem]
    · simp [h4]
    · rw [if_pos h4]; exact ownRes_nil _ _
  · refine wpIn_cond_false (by simp [Act.eval]; omega) (wpIn_skip ?_)
    simp only [Exit.then]
    refine wpIn_seq (ql_region rfl ?_)
    simp [ql, go_sem, Exit.then]
    refine (patch_call hT hl).mono ?_
    rintro e W1 ⟨v, rfl, hown, hb1⟩
    have hv : ∃ ao n c, v = .slice ao n c := by
      obtain ⟨ob, h | ⟨g, off, cap, cur, e, _, h, _⟩, _⟩ := hown
      · exact ⟨_, _, _, h.1⟩
      · exact ⟨_, _, _, h⟩
    obtain ⟨ao, nn, c, rfl⟩ := hv
    simp [ql, go_sem, Exit.then]
    refine wpIn_ret ?_
    refine ⟨rfl, .tuple #[.slice ao nn c, .int .i64 0], ?_, .slice ao nn c, ?_, ?_, hb1⟩
    · simp [results, Go.Proofs.Try.results110, go_sem]
    · simp [h4]
    · rw [if_neg h4]; exact hown
end Go.Tk
/- Plain facts: what a run of a program does (layer 1). No program in sight. -/
set_option linter.unusedSimpArgs false
set_option linter.unusedVariables false
namespace Go.Tk
open Go Go.RowKit

def cut (n : Int) : Int := max (-999) (min 999 n)
def Rg (s : List Int) (i : Int) : Int := List.getD s i.toNat 0
/-- What a line that writes makes of a state, before it is cut. -/
def wval (l : Lin) (s : List Int) : Int :=
  if l.1 = 1 then l.2.2.1
  else if l.1 = 2 then Rg s l.2.2.1
  else if l.1 = 3 then Rg s l.2.2.1 + Rg s l.2.2.2.1
  else if l.1 = 4 then Rg s l.2.2.1 - Rg s l.2.2.2.1
  else if l.1 = 5 then min (Rg s l.2.2.1) (Rg s l.2.2.2.1)
  else max (Rg s l.2.2.1) (Rg s l.2.2.2.1)
def writes (l : Lin) : Bool := decide (1 ≤ l.1 ∧ l.1 ≤ 6)

/-- What a forced line writes: a number, if it is forced. -/
abbrev Frc := Int → Option Int
def wnum (fr : Frc) (l : Lin) (i : Nat) (s : List Int) : Int := match fr i with
  | some n => n
  | none => wval l s
def stepTo (l : Lin) (i : Nat) (s : List Int) : Nat := if l.1 = 7 ∧ Rg s l.2.2.1 < Rg s l.2.2.2.1 then i + 1 + l.2.1.toNat else i + 1
def stepS (fr : Frc) (l : Lin) (i : Nat) (s : List Int) : List Int := if writes l then s.set l.2.1.toNat (cut (wnum fr l i s)) else s
abbrev Vst := Int × List Int × Unit
def runF (p : List Lin) (fr : Frc) : Nat → Nat → List Int → List Vst × List Int
  | 0, _, s => ([], s)
  | f + 1, i, s => if i < p.length then (((i : Int), s, ()) :: (runF p fr f (stepTo (p.getD i tL.dflt) i s) (stepS fr (p.getD i tL.dflt) i s)).1, (runF p fr f (stepTo (p.getD i tL.dflt) i s) (stepS fr (p.getD i tL.dflt) i s)).2) else ([], s)
def noFrc : Frc := fun _ => none
def visits (p : List Lin) (fr : Frc) (s : List Int) : List Vst := (runF p fr (p.length + 1) 0 s).1
def endS (p : List Lin) (fr : Frc) (s : List Int) : List Int := (runF p fr (p.length + 1) 0 s).2
def runS (p : List Lin) (s : List Int) : List Int := endS p noFrc s
def doneS (p : List Lin) (s : List Int) : List Int := (visits p noFrc s).map (·.1)

theorem stepTo_gt (l : Lin) (i : Nat) (s : List Int) : i < stepTo l i s := by unfold stepTo; split <;> omega

theorem runF_more (p : List Lin) (fr : Frc) : ∀ (f i : Nat) (s : List Int), p.length < i + f → runF p fr (f + 1) i s = runF p fr f i s
  | 0, i, s, h => by
    unfold runF
    rw [if_neg (by omega)]
  | f + 1, i, s, h => by
    rw [runF]
    conv => rhs; rw [runF]
    by_cases hi : i < p.length
    · rw [if_pos hi, if_pos hi, runF_more p fr f _ _ (by have := stepTo_gt (p.getD i tL.dflt) i s; omega)]
    · rw [if_neg hi, if_neg hi]

theorem isVal_iff {n : Int} : isVal n = true ↔ -999 ≤ n ∧ n ≤ 999 := within_iff
theorem validS_iff {s : List Int} : validS s = true ↔ s.length = 4 ∧ ∀ n ∈ s, -999 ≤ n ∧ n ≤ 999 := by
  unfold validS
  rw [Bool.and_eq_true, List.all_eq_true]
  simp [isVal_iff]
theorem validS_len {s : List Int} (h : validS s = true) : s.length = 4 := (validS_iff.1 h).1
theorem validS_get {s : List Int} (h : validS s = true) (i : Int) : -999 ≤ Rg s i ∧ Rg s i ≤ 999 := by
  unfold Rg
  rcases Nat.lt_or_ge i.toNat s.length with g | g
  · exact (validS_iff.1 h).2 _ (mem_getD g)
  · rw [List.getD_eq_getElem?_getD, List.getElem?_eq_none g]; decide
theorem validS_set {s : List Int} (h : validS s = true) (i : Nat) {n : Int} (hn : -999 ≤ n ∧ n ≤ 999) : validS (s.set i n) = true := by
  rw [validS_iff] at *
  refine ⟨by simp [h.1], fun x hx => ?_⟩
  rcases List.mem_or_eq_of_mem_set hx with g | rfl
  · exact h.2 x g
  · exact hn
theorem cut_bd (n : Int) : -999 ≤ cut n ∧ cut n ≤ 999 := by unfold cut; omega
theorem stepS_ok (fr : Frc) (l : Lin) (i : Nat) {s : List Int} (h : validS s = true) : validS (stepS fr l i s) = true := by
  unfold stepS
  split
  · exact validS_set h _ (cut_bd _)
  · exact h
theorem runF_ok (p : List Lin) (fr : Frc) : ∀ (f i : Nat) (s : List Int), validS s = true → validS (runF p fr f i s).2 = true ∧ ∀ v ∈ (runF p fr f i s).1, (i : Int) ≤ v.1 ∧ v.1 < p.length ∧ validS v.2.1 = true
  | 0, i, s, h => ⟨h, fun v hv => by simp [runF] at hv⟩
  | f + 1, i, s, h => by
    rw [runF]
    split
    · rename_i hi
      obtain ⟨g1, g2⟩ := runF_ok p fr f (stepTo (p.getD i tL.dflt) i s) (stepS fr (p.getD i tL.dflt) i s) (stepS_ok fr _ i h)
      refine ⟨g1, fun v hv => ?_⟩
      rcases List.mem_cons.1 hv with rfl | hv
      · exact ⟨Int.le_refl _, by simpa using hi, h⟩
      · have g3 := g2 v hv
        have := stepTo_gt (p.getD i tL.dflt) i s
        exact ⟨by omega, g3.2.1, g3.2.2⟩
    · exact ⟨h, fun v hv => by simp at hv⟩
theorem runF_len (p : List Lin) (fr : Frc) : ∀ (f i : Nat) (s : List Int), (runF p fr f i s).1.length ≤ f
  | 0, _, _ => by simp [runF]
  | f + 1, i, s => by
    rw [runF]
    split
    · simp only [List.length_cons]
      have := runF_len p fr f (stepTo (p.getD i tL.dflt) i s) (stepS fr (p.getD i tL.dflt) i s)
      omega
    · simp
theorem runF_lt (p : List Lin) (fr : Frc) : ∀ (f i : Nat) (s : List Int), (runF p fr f i s).1.length + i ≤ max p.length i
  | 0, i, _ => by simp [runF]; omega
  | f + 1, i, s => by
    rw [runF]
    split
    · simp only [List.length_cons]
      have := runF_lt p fr f (stepTo (p.getD i tL.dflt) i s) (stepS fr (p.getD i tL.dflt) i s)
      have := stepTo_gt (p.getD i tL.dflt) i s
      omega
    · simp; omega
theorem runS_ok {p : List Lin} {s : List Int} (h : validS s = true) : validS (runS p s) = true := (runF_ok p noFrc _ 0 s h).1
theorem visits_len (p : List Lin) (fr : Frc) (s : List Int) : (visits p fr s).length ≤ p.length := by have := runF_lt p fr (p.length + 1) 0 s; unfold visits; omega
theorem visits_ok {p : List Lin} {fr : Frc} {s : List Int} (h : validS s = true) : ∀ v ∈ visits p fr s, 0 ≤ v.1 ∧ v.1 < p.length ∧ validS v.2.1 = true := fun v hv => by
  have := (runF_ok p fr _ 0 s h).2 v hv
  exact ⟨by omega, this.2⟩

def err1 (p : List Lin) (s : List Int) : Int := if validP p = 0 then argErr (validS s) else validP p
theorem err1_ok {p : List Lin} {s : List Int} (h : err1 p s = 0) : validP p = 0 ∧ validS s = true := by
  unfold err1 at h
  split at h
  · exact ⟨by assumption, argErr_zero.1 h⟩
  · rename_i g; exact absurd h g

theorem validLine_at {p : List Lin} (h : p.all validLine = true) {i : Nat} (hi : i < p.length) : validLine (p.getD i tL.dflt) = true := List.all_eq_true.1 h _ (mem_getD hi)
/-- What is known of the numbers of a right line. -/
theorem line_regs {l : Lin} (h : validLine l = true) : (2 ≤ l.1 ∧ l.1 ≤ 7 → 0 ≤ l.2.2.1 ∧ l.2.2.1 ≤ 3) ∧ (3 ≤ l.1 ∧ l.1 ≤ 7 → 0 ≤ l.2.2.2.1 ∧ l.2.2.2.1 ≤ 3) ∧ (1 ≤ l.1 ∧ l.1 ≤ 6 → 0 ≤ l.2.1 ∧ l.2.1 ≤ 3) ∧ (l.1 = 7 → 1 ≤ l.2.1 ∧ l.2.1 ≤ 8) ∧ (l.1 = 1 → -9 ≤ l.2.2.1 ∧ l.2.2.1 ≤ 9) ∧ 0 ≤ l.1 ∧ l.1 ≤ 7 := by
  obtain ⟨op, t, x, y, ⟨⟩⟩ := l
  exact validLine_regs h

/-- What a function that is handed over forces. -/
def frcOf (F : Int × Unit → Int × Bool × Unit) : Frc := fun i => if (F (i, ())).2.1 = true then some (F (i, ())).1 else none

end Go.Tk
set_option linter.unusedSimpArgs false
set_option linter.unusedVariables false
namespace Go.Tk
open Go Go.RowKit

def allOps : List Opn := [tOpn.dflt, (0, (fun (x : (Int × Int × Int × Unit)) => True, fun (x : (Int × Int × Int × Unit)) => (x.2.2.1, ())), ()), (1, (fun (x : (Int × Int × Int × Unit)) => True, fun (x : (Int × Int × Int × Unit)) => (x.1, ())), ()), (2, (fun (x : (Int × Int × Int × Unit)) => inI (x.1 + x.2.1), fun (x : (Int × Int × Int × Unit)) => (x.1 + x.2.1, ())), ()), (2, (fun (x : (Int × Int × Int × Unit)) => inI (x.1 - x.2.1), fun (x : (Int × Int × Int × Unit)) => (x.1 - x.2.1, ())), ()), (2, (fun (x : (Int × Int × Int × Unit)) => True, fun (x : (Int × Int × Int × Unit)) => (min x.1 x.2.1, ())), ()), (2, (fun (x : (Int × Int × Int × Unit)) => True, fun (x : (Int × Int × Int × Unit)) => (max x.1 x.2.1, ())), ()), (2, (T.fn (.cons .int (.cons .int (.cons .int .nil))) (.cons .int .nil)).dflt, ())]
abbrev cOp1 : Con := { A := (.cons .int (.cons .int (.cons .int .nil))), R := (.cons .int .nil), pre := fun x => True, F := fun x => (x.2.2.1, ()) }
def cOp1_0  (a : Int) (b : Int) (number : Int) (y0 : Int) : Prop :=
  number = y0 ∧ True
theorem cOp1_law (h : ∀ (a : Int) (b : Int) (number : Int), cOp1.A.wf (a, b, number, ()) → cOp1_0  a b number number) : ConOK Go.Proofs.Try.prog 149 cOp1 := by
  refine lawL (Γ := []) (Θ := Th) (n := 8) [] trivial (by kernel_rfl) th_ok mix_ok Go.Proofs.Try.func149 (by kernel_rfl) ?_
  intro x hw hp Λ hC
  have h0 := h x.1 x.2.1 x.2.2.1 hw  
  exact Eq.mpr (by kernel_rfl) h0
theorem cOp1_ok : ConOK Go.Proofs.Try.prog 149 cOp1 := by
  refine cOp1_law ?_
  intro a b number hw
  unfold cOp1_0
  exact ⟨rfl, trivial⟩
abbrev cOp2 : Con := { A := (.cons .int (.cons .int (.cons .int .nil))), R := (.cons .int .nil), pre := fun x => True, F := fun x => (x.1, ()) }
def cOp2_0  (a : Int) (b : Int) (number : Int) (y0 : Int) : Prop :=
  a = y0 ∧ True
theorem cOp2_law (h : ∀ (a : Int) (b : Int) (number : Int), cOp2.A.wf (a, b, number, ()) → cOp2_0  a b number a) : ConOK Go.Proofs.Try.prog 150 cOp2 := by
  refine lawL (Γ := []) (Θ := Th) (n := 8) [] trivial (by kernel_rfl) th_ok mix_ok Go.Proofs.Try.func150 (by kernel_rfl) ?_
  intro x hw hp Λ hC
  have h0 := h x.1 x.2.1 x.2.2.1 hw  
  exact Eq.mpr (by kernel_rfl) h0
theorem cOp2_ok : ConOK Go.Proofs.Try.prog 150 cOp2 := by
  refine cOp2_law ?_
  intro a b number hw
  unfold cOp2_0
  exact ⟨rfl, trivial⟩
abbrev cOp3 : Con := { A := (.cons .int (.cons .int (.cons .int .nil))), R := (.cons .int .nil), pre := fun x => inI (x.1 + x.2.1), F := fun x => (x.1 + x.2.1, ()) }
def cOp3_0  (a : Int) (b : Int) (number : Int) (y0 : Int) : Prop :=
  inI (a + b) ∧ ((a + b) = y0 ∧ True)
theorem cOp3_law (h : ∀ (a : Int) (b : Int) (number : Int), cOp3.A.wf (a, b, number, ()) → (inI (a + b)) → cOp3_0  a b number (a + b)) : ConOK Go.Proofs.Try.prog 151 cOp3 := by
  refine lawL (Γ := []) (Θ := Th) (n := 10) [] trivial (by kernel_rfl) th_ok mix_ok Go.Proofs.Try.func151 (by kernel_rfl) ?_
  intro x hw hp Λ hC
  have h0 := h x.1 x.2.1 x.2.2.1 hw hp  
  exact Eq.mpr (by kernel_rfl) h0
theorem cOp3_ok : ConOK Go.Proofs.Try.prog 151 cOp3 := by
  refine cOp3_law ?_
  intro a b number hw hp
  unfold cOp3_0
  exact ⟨hp, rfl, trivial⟩
abbrev cOp4 : Con := { A := (.cons .int (.cons .int (.cons .int .nil))), R := (.cons .int .nil), pre := fun x => inI (x.1 - x.2.1), F := fun x => (x.1 - x.2.1, ()) }
def cOp4_0  (a : Int) (b : Int) (number : Int) (y0 : Int) : Prop :=
  inI (a - b) ∧ ((a - b) = y0 ∧ True)
theorem cOp4_law (h : ∀ (a : Int) (b : Int) (number : Int), cOp4.A.wf (a, b, number, ()) → (inI (a - b)) → cOp4_0  a b number (a - b)) : ConOK Go.Proofs.Try.prog 152 cOp4 := by
  refine lawL (Γ := []) (Θ := Th) (n := 10) [] trivial (by kernel_rfl) th_ok mix_ok Go.Proofs.Try.func152 (by kernel_rfl) ?_
  intro x hw hp Λ hC
  have h0 := h x.1 x.2.1 x.2.2.1 hw hp  
  exact Eq.mpr (by kernel_rfl) h0
theorem cOp4_ok : ConOK Go.Proofs.Try.prog 152 cOp4 := by
  refine cOp4_law ?_
  intro a b number hw hp
  unfold cOp4_0
  exact ⟨hp, rfl, trivial⟩
abbrev cOp5 : Con := { A := (.cons .int (.cons .int (.cons .int .nil))), R := (.cons .int .nil), pre := fun x => True, F := fun x => (min x.1 x.2.1, ()) }
def cOp5_0  (a : Int) (b : Int) (number : Int) (y0 : Int) : Prop :=
  (min a b) = y0 ∧ True
theorem cOp5_law (h : ∀ (a : Int) (b : Int) (number : Int), cOp5.A.wf (a, b, number, ()) → cOp5_0  a b number (min a b)) : ConOK Go.Proofs.Try.prog 153 cOp5 := by
  refine lawL (Γ := []) (Θ := Th) (n := 10) [] trivial (by kernel_rfl) th_ok mix_ok Go.Proofs.Try.func153 (by kernel_rfl) ?_
  intro x hw hp Λ hC
  have h0 := h x.1 x.2.1 x.2.2.1 hw  
  exact Eq.mpr (by kernel_rfl) h0
theorem cOp5_ok : ConOK Go.Proofs.Try.prog 153 cOp5 := by
  refine cOp5_law ?_
  intro a b number hw
  unfold cOp5_0
  exact ⟨rfl, trivial⟩
abbrev cOp6 : Con := { A := (.cons .int (.cons .int (.cons .int .nil))), R := (.cons .int .nil), pre := fun x => True, F := fun x => (max x.1 x.2.1, ()) }
def cOp6_0  (a : Int) (b : Int) (number : Int) (y0 : Int) : Prop :=
  (max a b) = y0 ∧ True
theorem cOp6_law (h : ∀ (a : Int) (b : Int) (number : Int), cOp6.A.wf (a, b, number, ()) → cOp6_0  a b number (max a b)) : ConOK Go.Proofs.Try.prog 154 cOp6 := by
  refine lawL (Γ := []) (Θ := Th) (n := 10) [] trivial (by kernel_rfl) th_ok mix_ok Go.Proofs.Try.func154 (by kernel_rfl) ?_
  intro x hw hp Λ hC
  have h0 := h x.1 x.2.1 x.2.2.1 hw  
  exact Eq.mpr (by kernel_rfl) h0
theorem cOp6_ok : ConOK Go.Proofs.Try.prog 154 cOp6 := by
  refine cOp6_law ?_
  intro a b number hw
  unfold cOp6_0
  exact ⟨rfl, trivial⟩
abbrev cOperations : Con := { A := .nil, R := (.cons (.arr 8 tOpn) .nil), pre := fun x => True, F := fun x => (allOps, ()) }
def cOperations_0   (y0 : (List Opn)) : Prop :=
  (List.set (List.set (List.set (List.set (List.set (List.set (List.set (List.replicate 8 tOpn.dflt) 1 (0, (fun (xx : (Int × Int × Int × Unit)) => True, fun (xx : (Int × Int × Int × Unit)) => (xx.2.2.1, ())), ())) 2 (1, (fun (xx : (Int × Int × Int × Unit)) => True, fun (xx : (Int × Int × Int × Unit)) => (xx.1, ())), ())) 3 (2, (fun (xx : (Int × Int × Int × Unit)) => inI (xx.1 + xx.2.1), fun (xx : (Int × Int × Int × Unit)) => (xx.1 + xx.2.1, ())), ())) 4 (2, (fun (xx : (Int × Int × Int × Unit)) => inI (xx.1 - xx.2.1), fun (xx : (Int × Int × Int × Unit)) => (xx.1 - xx.2.1, ())), ())) 5 (2, (fun (xx : (Int × Int × Int × Unit)) => True, fun (xx : (Int × Int × Int × Unit)) => (min xx.1 xx.2.1, ())), ())) 6 (2, (fun (xx : (Int × Int × Int × Unit)) => True, fun (xx : (Int × Int × Int × Unit)) => (max xx.1 xx.2.1, ())), ())) 7 (2, (T.fn (.cons .int (.cons .int (.cons .int .nil))) (.cons .int .nil)).dflt, ())) = y0 ∧ True
theorem cOperations_law (h : cOperations.A.wf (()) → cOperations_0   allOps) : ConOK Go.Proofs.Try.prog 141 cOperations := by
  refine lawL (Γ := [(149, cOp1), (150, cOp2), (151, cOp3), (152, cOp4), (153, cOp5), (154, cOp6)]) (Θ := Th) (n := 9) [] ⟨cOp1_ok, cOp2_ok, cOp3_ok, cOp4_ok, cOp5_ok, cOp6_ok, trivial⟩ (by kernel_rfl) th_ok mix_ok Go.Proofs.Try.func141 (by kernel_rfl) ?_
  intro x hw hp Λ hC
  have h0 := h  hw  
  exact Eq.mpr (by kernel_rfl) h0
theorem cOperations_ok : ConOK Go.Proofs.Try.prog 141 cOperations := by
  refine cOperations_law ?_
  intro hw
  unfold cOperations_0
  exact ⟨rfl, trivial⟩
abbrev cWrites1 : Con := { A := (.cons tL .nil), R := (.cons .int (.cons .bool .nil)), pre := fun x => True, F := fun x => ((if writes x.1 then x.1.2.1 else 0), writes x.1, ()) }
def cWrites1_0  (l : Lin) (y0 : Int) (y1 : Bool) : Prop :=
  True ∧ (if (within l.1 (1 : Int) (6 : Int)) = true then (l.2.1 = y0 ∧ true = y1 ∧ True) else ((0 : Int) = y0 ∧ false = y1 ∧ True))
theorem cWrites1_law (h : ∀ (l : Lin), cWrites1.A.wf (l, ()) → cWrites1_0  l (if writes l then l.2.1 else 0) (writes l)) : ConOK Go.Proofs.Try.prog 142 cWrites1 := by
  refine lawL (Γ := [(114, cWithin1)]) (Θ := Th) (n := 9) [] ⟨cWithin1_ok, trivial⟩ (by kernel_rfl) th_ok mix_ok Go.Proofs.Try.func142 (by kernel_rfl) ?_
  intro x hw hp Λ hC
  have h0 := h x.1 hw  
  exact Eq.mpr (by kernel_rfl) h0
theorem cWrites1_ok : ConOK Go.Proofs.Try.prog 142 cWrites1 := by
  refine cWrites1_law ?_
  intro l hw
  unfold cWrites1_0
  refine ⟨trivial, ?_⟩
  by_cases h : 1 ≤ l.1 ∧ l.1 ≤ 6
  · have e : writes l = true := by unfold writes; simpa using h
    rw [if_pos (within_iff.2 h), if_pos e]
    exact ⟨rfl, e.symm, trivial⟩
  · have e : writes l = false := by unfold writes; simpa using h
    rw [if_neg (fun g => h (within_iff.1 g)), if_neg (by rw [e]; simp)]
    exact ⟨rfl, e.symm, trivial⟩
abbrev cRun0 : Con := { A := (.cons (.sl tL) (.cons (.sl .int) (.cons (.fn (.cons .int .nil) (.cons .int (.cons .bool .nil))) .nil))), R := (.cons (.osl tVis) (.cons (.arr 4 .int) .nil)), pre := fun x => validP x.1 = 0 ∧ validS x.2.1 = true ∧ ∀ i', x.2.2.1.1 (i', ()), F := fun x => (visits x.1 (frcOf x.2.2.1.2) x.2.1, endS x.1 (frcOf x.2.2.1.2) x.2.1, ()) }
def cRun0_0 (Λ1 : Int → (List Int) → (List Vis) → Prop) (Λ2 : Int → (List Int) → (List Vis) → Int → Prop) (p : (List Lin)) (in_ : (List Int)) (forced : (T.fn (.cons .int .nil) (.cons .int (.cons .bool .nil))).den) (y0 : (List Vis)) (y1 : (List Int)) : Prop :=
  True ∧ (True ∧ Λ1 (0 : Int) (List.append (List.take (List.length (List.replicate 4 0)) in_) (List.drop (List.length in_) (List.replicate 4 0))) ([] : List Vis))
def cRun0_1 (Λ1 : Int → (List Int) → (List Vis) → Prop) (Λ2 : Int → (List Int) → (List Vis) → Int → Prop) (p : (List Lin)) (in_ : (List Int)) (forced : (T.fn (.cons .int .nil) (.cons .int (.cons .bool .nil))).den) (y0 : (List Vis)) (y1 : (List Int))  (i_1 : Int) (now_1 : (List Int)) (out_1 : (List Vis)) : Prop :=
  if (decide (i_1 < (List.length p : Int))) = true then (idx i_1 (List.length p : Int) ∧ (List.length out_1 + List.length [(i_1, now_1, ())] ≤ 4294967296 ∧ (if ((List.getD p (Int.toNat i_1) tL.dflt).1 == (7 : Int)) = true then (idx ((List.getD p (Int.toNat i_1) tL.dflt).2.2.1) (4 : Int) ∧ (idx ((List.getD p (Int.toNat i_1) tL.dflt).2.2.2.1) (4 : Int) ∧ (if (decide ((List.getD now_1 (Int.toNat ((List.getD p (Int.toNat i_1) tL.dflt).2.2.1)) 0) < (List.getD now_1 (Int.toNat ((List.getD p (Int.toNat i_1) tL.dflt).2.2.2.1)) 0))) = true then (inI (i_1 + (List.getD p (Int.toNat i_1) tL.dflt).2.1) ∧ (inI ((i_1 + (List.getD p (Int.toNat i_1) tL.dflt).2.1) + (1 : Int)) ∧ Λ1 ((i_1 + (List.getD p (Int.toNat i_1) tL.dflt).2.1) + (1 : Int)) now_1 (out_1 ++ [(i_1, now_1, ())]))) else (inI (i_1 + (1 : Int)) ∧ Λ1 (i_1 + (1 : Int)) now_1 (out_1 ++ [(i_1, now_1, ())]))))) else (True ∧ (if (!(writes (List.getD p (Int.toNat i_1) tL.dflt))) = true then (inI (i_1 + (1 : Int)) ∧ Λ1 (i_1 + (1 : Int)) now_1 (out_1 ++ [(i_1, now_1, ())])) else (forced.1 (i_1, ()) ∧ (if (!((forced.2 (i_1, ())).2.1)) = true then (idx ((List.getD p (Int.toNat i_1) tL.dflt).1) (8 : Int) ∧ (if (decide ((List.getD allOps (Int.toNat ((List.getD p (Int.toNat i_1) tL.dflt).1)) tOpn.dflt).1 > (0 : Int))) = true then (idx ((List.getD p (Int.toNat i_1) tL.dflt).2.2.1) (4 : Int) ∧ Λ2 i_1 now_1 out_1 (List.getD now_1 (Int.toNat ((List.getD p (Int.toNat i_1) tL.dflt).2.2.1)) 0)) else Λ2 i_1 now_1 out_1 (0 : Int))) else (idx ((if writes (List.getD p (Int.toNat i_1) tL.dflt) then (List.getD p (Int.toNat i_1) tL.dflt).2.1 else 0)) (4 : Int) ∧ (inI (i_1 + (1 : Int)) ∧ Λ1 (i_1 + (1 : Int)) (List.set now_1 (Int.toNat ((if writes (List.getD p (Int.toNat i_1) tL.dflt) then (List.getD p (Int.toNat i_1) tL.dflt).2.1 else 0))) (max (-999 : Int) (min (999 : Int) ((forced.2 (i_1, ())).1)))) (out_1 ++ [(i_1, now_1, ())])))))))))) else (now_1 = y1 ∧ out_1 = y0)
def cRun0_2 (Λ1 : Int → (List Int) → (List Vis) → Prop) (Λ2 : Int → (List Int) → (List Vis) → Int → Prop) (p : (List Lin)) (in_ : (List Int)) (forced : (T.fn (.cons .int .nil) (.cons .int (.cons .bool .nil))).den) (y0 : (List Vis)) (y1 : (List Int)) (i_1 : Int) (now_1 : (List Int)) (out_1 : (List Vis)) (a_2 : Int) : Prop :=
  idx ((List.getD p (Int.toNat i_1) tL.dflt).1) (8 : Int) ∧ (if (decide ((List.getD allOps (Int.toNat ((List.getD p (Int.toNat i_1) tL.dflt).1)) tOpn.dflt).1 > (1 : Int))) = true then (idx ((List.getD p (Int.toNat i_1) tL.dflt).2.2.2.1) (4 : Int) ∧ (idx ((List.getD p (Int.toNat i_1) tL.dflt).1) (8 : Int) ∧ (((List.getD allOps (Int.toNat ((List.getD p (Int.toNat i_1) tL.dflt).1)) tOpn.dflt).2.1).1 (a_2, (List.getD now_1 (Int.toNat ((List.getD p (Int.toNat i_1) tL.dflt).2.2.2.1)) 0), (List.getD p (Int.toNat i_1) tL.dflt).2.2.1, ()) ∧ (idx ((if writes (List.getD p (Int.toNat i_1) tL.dflt) then (List.getD p (Int.toNat i_1) tL.dflt).2.1 else 0)) (4 : Int) ∧ (inI (i_1 + (1 : Int)) ∧ Λ1 (i_1 + (1 : Int)) (List.set now_1 (Int.toNat ((if writes (List.getD p (Int.toNat i_1) tL.dflt) then (List.getD p (Int.toNat i_1) tL.dflt).2.1 else 0))) (max (-999 : Int) (min (999 : Int) ((((List.getD allOps (Int.toNat ((List.getD p (Int.toNat i_1) tL.dflt).1)) tOpn.dflt).2.1).2 (a_2, (List.getD now_1 (Int.toNat ((List.getD p (Int.toNat i_1) tL.dflt).2.2.2.1)) 0), (List.getD p (Int.toNat i_1) tL.dflt).2.2.1, ())).1)))) (out_1 ++ [(i_1, now_1, ())])))))) else (idx ((List.getD p (Int.toNat i_1) tL.dflt).1) (8 : Int) ∧ (((List.getD allOps (Int.toNat ((List.getD p (Int.toNat i_1) tL.dflt).1)) tOpn.dflt).2.1).1 (a_2, 0, (List.getD p (Int.toNat i_1) tL.dflt).2.2.1, ()) ∧ (idx ((if writes (List.getD p (Int.toNat i_1) tL.dflt) then (List.getD p (Int.toNat i_1) tL.dflt).2.1 else 0)) (4 : Int) ∧ (inI (i_1 + (1 : Int)) ∧ Λ1 (i_1 + (1 : Int)) (List.set now_1 (Int.toNat ((if writes (List.getD p (Int.toNat i_1) tL.dflt) then (List.getD p (Int.toNat i_1) tL.dflt).2.1 else 0))) (max (-999 : Int) (min (999 : Int) ((((List.getD allOps (Int.toNat ((List.getD p (Int.toNat i_1) tL.dflt).1)) tOpn.dflt).2.1).2 (a_2, 0, (List.getD p (Int.toNat i_1) tL.dflt).2.2.1, ())).1)))) (out_1 ++ [(i_1, now_1, ())]))))))
theorem cRun0_law (h : ∀ (p : (List Lin)) (in_ : (List Int)) (forced : (T.fn (.cons .int .nil) (.cons .int (.cons .bool .nil))).den), cRun0.A.wf (p, in_, forced, ()) → (validP p = 0 ∧ validS in_ = true ∧ ∀ i', forced.1 (i', ())) → ∀ (Λ1 : Int → (List Int) → (List Vis) → Prop) (Λ2 : Int → (List Int) → (List Vis) → Int → Prop), (∀ (i_1 : Int) (now_1 : (List Int)) (out_1 : (List Vis)), cRun0_1 Λ1 Λ2 p in_ forced (visits p (frcOf forced.2) in_) (endS p (frcOf forced.2) in_) i_1 now_1 out_1 → Λ1 i_1 now_1 out_1) → (∀ (i_1 : Int) (now_1 : (List Int)) (out_1 : (List Vis)) (a_2 : Int), cRun0_2 Λ1 Λ2 p in_ forced (visits p (frcOf forced.2) in_) (endS p (frcOf forced.2) in_) i_1 now_1 out_1 a_2 → Λ2 i_1 now_1 out_1 a_2) → cRun0_0 Λ1 Λ2 p in_ forced (visits p (frcOf forced.2) in_) (endS p (frcOf forced.2) in_)) : ConOK Go.Proofs.Try.prog 134 cRun0 := by
  refine lawL (Γ := [(141, cOperations), (142, cWrites1)]) (Θ := Th) (n := 107) [([1, 1, 1, 1, 1, 0, 1, 0], ⟨[(0, false), (2, false), (7, true), (8, true), (9, true), (10, true), (11, true)], [(7, true), (8, true), (9, true), (10, true)]⟩), ([1, 1, 1, 1, 1, 0, 1, 0, 0, 1, 0, 0, 1, 1, 1, 1, 1, 1, 0, 1, 0, 1, 2], ⟨[(0, false), (2, false), (7, true), (8, true), (9, true), (10, true), (11, true), (12, true), (13, true), (17, true), (18, true)], [(7, true), (8, true), (9, true), (10, true), (12, true)]⟩)] ⟨cOperations_ok, cWrites1_ok, trivial⟩ (by kernel_rfl) th_ok mix_ok Go.Proofs.Try.func134 (by kernel_rfl) ?_
  intro x hw hp Λ hC
  have h0 := h x.1 x.2.1 x.2.2.1 hw hp (fun i_1 now_1 out_1 => Λ [1, 1, 1, 1, 1, 0, 1, 0] ([(0, .d false (.sl tL) x.1), (2, .d false (.fn (.cons .int .nil) (.cons .int (.cons .bool .nil))) x.2.2.1), (7, .ptr 7 0 []), (8, .ptr 8 0 []), (9, .ptr 9 0 []), (10, .own 10 0), (11, .d true .int i_1)], [(7, .box true (.arr 4 .int) (List.replicate 4 0)), (8, .box true (.arr 4 .int) now_1), (9, .box true (.arr 8 tOpn) allOps), (10, .sl true tVis out_1)])) (fun i_1 now_1 out_1 a_2 => Λ [1, 1, 1, 1, 1, 0, 1, 0, 0, 1, 0, 0, 1, 1, 1, 1, 1, 1, 0, 1, 0, 1, 2] ([(0, .d false (.sl tL) x.1), (2, .d false (.fn (.cons .int .nil) (.cons .int (.cons .bool .nil))) x.2.2.1), (7, .ptr 7 0 []), (8, .ptr 8 0 []), (9, .ptr 9 0 []), (10, .own 10 0), (11, .d true .int i_1), (12, .ptr 12 0 []), (13, .d true .int ((if writes (List.getD x.1 (Int.toNat i_1) tL.dflt) then (List.getD x.1 (Int.toNat i_1) tL.dflt).2.1 else 0))), (17, .d true .int a_2), (18, .d true .int 0)], [(7, .box true (.arr 4 .int) (List.replicate 4 0)), (8, .box true (.arr 4 .int) now_1), (9, .box true (.arr 8 tOpn) allOps), (10, .sl true tVis (out_1 ++ [(i_1, now_1, ())])), (12, .box true tL (List.getD x.1 (Int.toNat i_1) tL.dflt))])) (fun i_1 now_1 out_1 hb => hC [1, 1, 1, 1, 1, 0, 1, 0] ([(0, .d false (.sl tL) x.1), (2, .d false (.fn (.cons .int .nil) (.cons .int (.cons .bool .nil))) x.2.2.1), (7, .ptr 7 0 []), (8, .ptr 8 0 []), (9, .ptr 9 0 []), (10, .own 10 0), (11, .d true .int i_1)], [(7, .box true (.arr 4 .int) (List.replicate 4 0)), (8, .box true (.arr 4 .int) now_1), (9, .box true (.arr 8 tOpn) allOps), (10, .sl true tVis out_1)]) (Eq.mpr (by kernel_rfl) hb)) (fun i_1 now_1 out_1 a_2 hb => hC [1, 1, 1, 1, 1, 0, 1, 0, 0, 1, 0, 0, 1, 1, 1, 1, 1, 1, 0, 1, 0, 1, 2] ([(0, .d false (.sl tL) x.1), (2, .d false (.fn (.cons .int .nil) (.cons .int (.cons .bool .nil))) x.2.2.1), (7, .ptr 7 0 []), (8, .ptr 8 0 []), (9, .ptr 9 0 []), (10, .own 10 0), (11, .d true .int i_1), (12, .ptr 12 0 []), (13, .d true .int ((if writes (List.getD x.1 (Int.toNat i_1) tL.dflt) then (List.getD x.1 (Int.toNat i_1) tL.dflt).2.1 else 0))), (17, .d true .int a_2), (18, .d true .int 0)], [(7, .box true (.arr 4 .int) (List.replicate 4 0)), (8, .box true (.arr 4 .int) now_1), (9, .box true (.arr 8 tOpn) allOps), (10, .sl true tVis (out_1 ++ [(i_1, now_1, ())])), (12, .box true tL (List.getD x.1 (Int.toNat i_1) tL.dflt))]) (Eq.mpr (by kernel_rfl) hb))
  exact Eq.mpr (by kernel_rfl) h0
theorem cRun0_ok : ConOK Go.Proofs.Try.prog 134 cRun0 := by
  refine cRun0_law ?_
  intro p in_ forced hw hp Λ1 Λ2 h1 h2
  unfold cRun0_0
  obtain ⟨p1, p2, p3⟩ := hp
  obtain ⟨h8, hall⟩ := validP_ok p1
  have l4 := validS_len p2
  have key : ∀ (f i : Nat) (s : List Int) (out : List Vst), validS s = true → p.length < i + f → out.length ≤ i → visits p (frcOf forced.2) in_ = out ++ (runF p (frcOf forced.2) f i s).1 → endS p (frcOf forced.2) in_ = (runF p (frcOf forced.2) f i s).2 → Λ1 (i : Int) s out := by
    intro f
    induction f with
    | zero =>
      intro i s out hs hf ho e1 e2
      apply h1; unfold cRun0_1; rw [if_neg (by simp; omega)]
      exact ⟨e2.symm, by rw [e1]; simp [runF]⟩
    | succ f ih =>
      intro i s out hs hf ho e1 e2
      rw [runF] at e1 e2
      by_cases hi : i < p.length
      · rw [if_pos hi] at e1 e2
        have hl := validLine_at hall hi
        have hgt := stepTo_gt (List.getD p i tL.dflt) i s
        have nx := ih (stepTo (List.getD p i tL.dflt) i s) (stepS (frcOf forced.2) (List.getD p i tL.dflt) i s) (out ++ [((i : Int), s, ())]) (stepS_ok _ _ i hs) (by omega) (by rw [List.length_append]; simp only [List.length_cons, List.length_nil]; omega) (by rw [e1]; simp) e2
        have l4s := validS_len hs
        have J : ∀ a2, writes (List.getD p i tL.dflt) = true → (forced.2 ((i : Int), ())).2.1 = false → a2 = (if (List.getD p i tL.dflt).1 = 1 then 0 else Rg s (List.getD p i tL.dflt).2.2.1) → Λ2 i s out a2 := by
          intro a2 hw hfr ha
          have efr : frcOf forced.2 (i : Int) = none := by unfold frcOf; rw [if_neg (by rw [hfr]; simp)]
          apply h2; unfold cRun0_2; rw [Int.toNat_natCast]
          unfold stepS stepTo wnum at nx
          rw [efr] at nx
          generalize List.getD p i tL.dflt = l at *
          have hr := line_regs hl
          have hw2 : 1 ≤ l.1 ∧ l.1 ≤ 6 := by unfold writes at hw; simpa using hw
          rw [if_neg (by rintro ⟨h, _⟩; omega), if_pos hw] at nx
          have it := hr.2.2.1 hw2
          rw [if_pos hw]
          obtain ⟨op, t, x, y, ⟨⟩⟩ := l
          have I8 : idx op (8 : Int) := ⟨by dsimp only at hw2; omega, by dsimp only at hw2; omega⟩
          have I4 : idx t (4 : Int) := ⟨by dsimp only at it; omega, by dsimp only at it; omega⟩
          have hn : inI ((i : Int) + 1) := inI_succ hi (by omega)
          have c : op = 1 ∨ op = 2 ∨ op = 3 ∨ op = 4 ∨ op = 5 ∨ op = 6 := by dsimp only at hw2; omega
          rcases c with rfl | rfl | rfl | rfl | rfl | rfl
          · exact ⟨I8, I8, trivial, I4, hn, nx⟩
          · rw [if_neg (by simp)] at ha
            subst ha
            exact ⟨I8, I8, trivial, I4, hn, nx⟩
          all_goals
            rw [if_neg (by simp)] at ha
            subst ha
            have iy := hr.2.1 (by dsimp only; omega)
            dsimp only at iy
            have gx := validS_get hs x
            have gy := validS_get hs y
            have Iy : idx y (4 : Int) := ⟨iy.1, by omega⟩
            first
              | exact ⟨I8, Iy, I8, trivial, I4, hn, nx⟩
              | exact ⟨I8, Iy, I8, (by show inI (Rg s x + Rg s y); unfold inI; omega), I4, hn, nx⟩
              | exact ⟨I8, Iy, I8, (by show inI (Rg s x - Rg s y); unfold inI; omega), I4, hn, nx⟩
        apply h1; unfold cRun0_1; rw [if_pos (by simpa using hi), Int.toNat_natCast]
        have hr := line_regs hl
        have hn : inI ((i : Int) + 1) := inI_succ hi (by omega)
        refine ⟨idx_nat hi, by simp only [List.length_cons, List.length_nil]; omega, ?_⟩
        unfold stepS stepTo wnum at nx
        generalize List.getD p i tL.dflt = l at *
        by_cases h7 : l.1 = 7
        · rw [if_pos (by simpa using h7)]
          have ix := hr.1 (by omega)
          have iy := hr.2.1 (by omega)
          have it := hr.2.2.2.1 h7
          have hw : writes l = false := by unfold writes; simp only [decide_eq_false_iff_not]; omega
          rw [if_neg (show ¬ writes l = true by rw [hw]; simp)] at nx
          refine ⟨⟨ix.1, by omega⟩, ⟨iy.1, by omega⟩, ?_⟩
          by_cases hc : Rg s l.2.2.1 < Rg s l.2.2.2.1
          · rw [if_pos ⟨h7, hc⟩] at nx
            rw [if_pos (by unfold Rg at hc; simpa using hc)]
            refine ⟨by unfold inI; omega, by unfold inI; omega, ?_⟩
            rw [show ((i : Int) + l.2.1 + 1) = ((i + 1 + l.2.1.toNat : Nat) : Int) by omega]
            exact nx
          · rw [if_neg (by rintro ⟨_, h⟩; exact hc h)] at nx
            rw [if_neg (by unfold Rg at hc; simpa using hc)]
            exact ⟨hn, nx⟩
        · rw [if_neg (by simpa using h7)]
          rw [if_neg (by rintro ⟨h, _⟩; exact h7 h)] at nx
          refine ⟨trivial, ?_⟩
          cases hw : writes l
          · rw [hw] at nx
            rw [if_pos (by rfl)]
            exact ⟨hn, nx⟩
          · rw [if_neg (by simp)]
            have hw2 : 1 ≤ l.1 ∧ l.1 ≤ 6 := by unfold writes at hw; simpa using hw
            have it := hr.2.2.1 hw2
            refine ⟨p3 _, ?_⟩
            cases hfr : (forced.2 ((i : Int), ())).2.1
            · rw [if_pos (by rfl)]
              refine ⟨⟨by omega, by omega⟩, ?_⟩
              have J' := fun a2 => J a2 hw hfr
              obtain ⟨op, t, x, y, ⟨⟩⟩ := l
              have c : op = 1 ∨ op = 2 ∨ op = 3 ∨ op = 4 ∨ op = 5 ∨ op = 6 := by dsimp only at hw2; omega
              rcases c with rfl | rfl | rfl | rfl | rfl | rfl
              · exact J' 0 rfl
              all_goals
                have ix := hr.1 (by dsimp only; omega)
                dsimp only at ix
                exact ⟨⟨ix.1, by dsimp only; omega⟩, J' _ rfl⟩
            · rw [if_neg (by simp)]
              have efr : frcOf forced.2 (i : Int) = some (forced.2 ((i : Int), ())).1 := by unfold frcOf; rw [if_pos hfr]
              rw [efr, if_pos hw] at nx
              simp only [eq_self, if_true]
              exact ⟨⟨it.1, by omega⟩, hn, nx⟩
      · rw [if_neg hi] at e1 e2
        apply h1; unfold cRun0_1; rw [if_neg (by simpa using hi)]
        exact ⟨e2.symm, by rw [e1]; simp⟩
  refine ⟨trivial, trivial, ?_⟩
  show Λ1 0 (List.take 4 in_ ++ List.drop in_.length (List.replicate 4 0)) []
  rw [List.take_of_length_le (by omega), List.drop_of_length_le (by rw [List.length_replicate]; omega), List.append_nil]
  exact key (p.length + 1) 0 in_ [] p2 (by omega) (Nat.zero_le _) rfl rfl
abbrev cFree : Con := { A := (.cons .int .nil), R := (.cons .int (.cons .bool .nil)), pre := fun x => True, F := fun x => (0, false, ()) }
def cFree_0  (a0 : Int) (y0 : Int) (y1 : Bool) : Prop :=
  (0 : Int) = y0 ∧ false = y1 ∧ True
theorem cFree_law (h : ∀ (a0 : Int), cFree.A.wf (a0, ()) → cFree_0  a0 0 false) : ConOK Go.Proofs.Try.prog 135 cFree := by
  refine lawL (Γ := []) (Θ := Th) (n := 4) [] trivial (by kernel_rfl) th_ok mix_ok Go.Proofs.Try.func135 (by kernel_rfl) ?_
  intro x hw hp Λ hC
  have h0 := h x.1 hw  
  exact Eq.mpr (by kernel_rfl) h0
theorem cFree_ok : ConOK Go.Proofs.Try.prog 135 cFree := by
  refine cFree_law ?_
  intro a0 hw
  unfold cFree_0
  exact ⟨rfl, rfl, trivial⟩
theorem frc_free : frcOf (fun (x : (Int × Unit)) => (0, false, ())) = noFrc := rfl

abbrev cRun : Con := { A := (.cons (.sl tL) (.cons (.sl .int) .nil)), R := (.cons (.osl .int) (.cons .int .nil)), pre := fun x => True, F := fun x => ((if err1 x.1 x.2.1 = 0 then runS x.1 x.2.1 else []), err1 x.1 x.2.1, ()) }
def cRun_0  (p : (List Lin)) (in_ : (List Int)) (y0 : (List Int)) (y1 : Int) : Prop :=
  True ∧ (if (((if validP p = 0 then argErr (validS in_) else validP p)) != (0 : Int)) = true then (((if validP p = 0 then argErr (validS in_) else validP p)) = y1 ∧ ([] : List Int) = y0) else ((validP p = 0 ∧ validS in_ = true ∧ ∀ i', (fun (xx : (Int × Unit)) => True, fun (xx : (Int × Unit)) => (0, false, ())).1 (i', ())) ∧ (True ∧ ((0 : Int) = y1 ∧ (endS p (frcOf (fun (xx : (Int × Unit)) => True, fun (xx : (Int × Unit)) => (0, false, ())).2) in_) = y0))))
theorem cRun_law (h : ∀ (p : (List Lin)) (in_ : (List Int)), cRun.A.wf (p, in_, ()) → cRun_0  p in_ (if err1 p in_ = 0 then runS p in_ else []) (err1 p in_)) : ConOK Go.Proofs.Try.prog 123 cRun := by
  refine lawL (Γ := [(133, cCheck1), (135, cFree), (134, cRun0)]) (Θ := Th) (n := 22) [] ⟨cCheck1_ok, cFree_ok, cRun0_ok, trivial⟩ (by kernel_rfl) th_ok mix_ok Go.Proofs.Try.func123 (by kernel_rfl) ?_
  intro x hw hp Λ hC
  have h0 := h x.1 x.2.1 hw  
  exact Eq.mpr (by kernel_rfl) h0
theorem cRun_ok : ConOK Go.Proofs.Try.prog 123 cRun := by
  refine cRun_law ?_
  intro p in_ hw
  unfold cRun_0
  refine ⟨trivial, ?_⟩
  show if (err1 p in_ != 0) = true then _ else _
  by_cases h : err1 p in_ = 0
  · rw [if_neg (by simp [h]), if_pos h, h]
    have := err1_ok h
    exact ⟨⟨this.1, this.2, fun _ => trivial⟩, trivial, rfl, rfl⟩
  · rw [if_pos (by simpa using h), if_neg h]
    exact ⟨rfl, rfl⟩
end Go.Tk
set_option linter.unusedSimpArgs false
set_option linter.unusedVariables false
namespace Go.Tk
open Go Go.RowKit

abbrev cWritesR : Con := { A := (.cons tL .nil), R := (.cons .bool .nil), pre := fun x => True, F := fun x => (!(x.1.1 == 0) && !(x.1.1 == 7), ()) }
def cWritesR_0  (l : Lin) (y0 : Bool) : Prop :=
  if (l.1 != (0 : Int)) = true then (True ∧ ((bif true then (l.1 != (7 : Int)) else false) = y0 ∧ True)) else (false = false ∧ (false = y0 ∧ True))
theorem cWritesR_law (h : ∀ (l : Lin), cWritesR.A.wf (l, ()) → cWritesR_0  l (!(l.1 == 0) && !(l.1 == 7))) : ConOK Go.Proofs.Try.prog 158 cWritesR := by
  refine lawL (Γ := []) (Θ := Th) (n := 11) [] trivial (by kernel_rfl) th_ok mix_ok Go.Proofs.Try.func158 (by kernel_rfl) ?_
  intro x hw hp Λ hC
  have h0 := h x.1 hw  
  exact Eq.mpr (by kernel_rfl) h0
theorem cWritesR_ok : ConOK Go.Proofs.Try.prog 158 cWritesR := by
  refine cWritesR_law ?_
  intro l hw
  unfold cWritesR_0
  by_cases h : l.1 = 0 <;> by_cases h7 : l.1 = 7 <;> simp [h, h7, bne]
theorem writes_eq {l : Lin} (h : validLine l = true) : (!(l.1 == 0) && !(l.1 == 7)) = writes l := by
  have hr := line_regs h
  unfold writes
  rw [Bool.eq_iff_iff]
  simp only [Bool.and_eq_true, Bool.not_eq_true', beq_eq_false_iff_ne, decide_eq_true_eq]
  omega

abbrev cCutR : Con := { A := (.cons .int .nil), R := (.cons .int .nil), pre := fun x => True, F := fun x => (cut x.1, ()) }
def cCutR_0  (n : Int) (y0 : Int) : Prop :=
  if (decide (n < (-999 : Int))) = true then ((-999 : Int) = y0 ∧ True) else (if (decide (n > (999 : Int))) = true then ((999 : Int) = y0 ∧ True) else (n = y0 ∧ True))
theorem cCutR_law (h : ∀ (n : Int), cCutR.A.wf (n, ()) → cCutR_0  n (cut n)) : ConOK Go.Proofs.Try.prog 171 cCutR := by
  refine lawL (Γ := []) (Θ := Th) (n := 8) [] trivial (by kernel_rfl) th_ok mix_ok Go.Proofs.Try.func171 (by kernel_rfl) ?_
  intro x hw hp Λ hC
  have h0 := h x.1 hw  
  exact Eq.mpr (by kernel_rfl) h0
theorem cCutR_ok : ConOK Go.Proofs.Try.prog 171 cCutR := by
  refine cCutR_law ?_
  intro n hw
  unfold cCutR_0
  unfold cut
  simp only [decide_eq_true_eq]
  split
  · exact ⟨by omega, trivial⟩
  · split
    · exact ⟨by omega, trivial⟩
    · exact ⟨by omega, trivial⟩
abbrev cValueR : Con := { A := (.cons tL (.cons (.sl .int) .nil)), R := (.cons .int .nil), pre := fun x => validLine x.1 = true ∧ writes x.1 = true ∧ validS x.2.1 = true, F := fun x => (cut (wval x.1 x.2.1), ()) }
def cValueR_0  (l : Lin) (s : (List Int)) (y0 : Int) : Prop :=
  if (l.1 == (1 : Int)) = true then (l.2.2.1 = y0 ∧ True) else (idx l.2.2.1 (List.length s : Int) ∧ (idx l.2.2.2.1 (List.length s : Int) ∧ (if (l.1 == (3 : Int)) = true then (inI ((List.getD s (Int.toNat l.2.2.1) 0) + (List.getD s (Int.toNat l.2.2.2.1) 0)) ∧ (True ∧ ((cut ((List.getD s (Int.toNat l.2.2.1) 0) + (List.getD s (Int.toNat l.2.2.2.1) 0))) = y0 ∧ True))) else (if (l.1 == (4 : Int)) = true then (inI ((List.getD s (Int.toNat l.2.2.1) 0) - (List.getD s (Int.toNat l.2.2.2.1) 0)) ∧ (True ∧ ((cut ((List.getD s (Int.toNat l.2.2.1) 0) - (List.getD s (Int.toNat l.2.2.2.1) 0))) = y0 ∧ True))) else (if (l.1 == (5 : Int)) = true then (if (decide ((List.getD s (Int.toNat l.2.2.2.1) 0) < (List.getD s (Int.toNat l.2.2.1) 0))) = true then (True ∧ ((cut (List.getD s (Int.toNat l.2.2.2.1) 0)) = y0 ∧ True)) else (True ∧ ((cut (List.getD s (Int.toNat l.2.2.1) 0)) = y0 ∧ True))) else (if (l.1 == (6 : Int)) = true then (if (decide ((List.getD s (Int.toNat l.2.2.2.1) 0) > (List.getD s (Int.toNat l.2.2.1) 0))) = true then (True ∧ ((cut (List.getD s (Int.toNat l.2.2.2.1) 0)) = y0 ∧ True)) else (True ∧ ((cut (List.getD s (Int.toNat l.2.2.1) 0)) = y0 ∧ True))) else (True ∧ ((cut (List.getD s (Int.toNat l.2.2.1) 0)) = y0 ∧ True))))))))
theorem cValueR_law (h : ∀ (l : Lin) (s : (List Int)), cValueR.A.wf (l, s, ()) → (validLine l = true ∧ writes l = true ∧ validS s = true) → cValueR_0  l s (cut (wval l s))) : ConOK Go.Proofs.Try.prog 159 cValueR := by
  refine lawL (Γ := [(171, cCutR)]) (Θ := Th) (n := 48) [] ⟨cCutR_ok, trivial⟩ (by kernel_rfl) th_ok mix_ok Go.Proofs.Try.func159 (by kernel_rfl) ?_
  intro x hw hp Λ hC
  have h0 := h x.1 x.2.1 hw hp  
  exact Eq.mpr (by kernel_rfl) h0
theorem cValueR_ok : ConOK Go.Proofs.Try.prog 159 cValueR := by
  refine cValueR_law ?_
  intro l s hw hp
  unfold cValueR_0
  obtain ⟨p1, p2, p3⟩ := hp
  have hr := line_regs p1
  have l4 := validS_len p3
  have hw2 : 1 ≤ l.1 ∧ l.1 ≤ 6 := by unfold writes at p2; simpa using p2
  have gx := validS_get p3 l.2.2.1
  have gy := validS_get p3 l.2.2.2.1
  unfold wval
  by_cases e1 : l.1 = 1
  · rw [if_pos (by simpa using e1), if_pos e1]
    have := hr.2.2.2.2.1 e1
    exact ⟨by unfold cut; omega, trivial⟩
  rw [if_neg (by simpa using e1), if_neg e1]
  have ix := hr.1 (by omega)
  have iy : 0 ≤ l.2.2.2.1 ∧ l.2.2.2.1 ≤ 3 := by
    by_cases e2 : l.1 = 2
    · obtain ⟨op, t, x, y, ⟨⟩⟩ := l
      dsimp only at e2
      subst e2
      unfold validLine at p1
      simp at p1
      dsimp only
      omega
    · exact hr.2.1 (by omega)
  refine ⟨⟨ix.1, by omega⟩, ⟨iy.1, by omega⟩, ?_⟩
  unfold Rg at gx gy ⊢
  by_cases e3 : l.1 = 3
  · rw [if_pos (by simpa using e3), if_neg (by omega), if_pos e3]
    exact ⟨by unfold inI; omega, trivial, rfl, trivial⟩
  rw [if_neg (by simpa using e3)]
  by_cases e4 : l.1 = 4
  · rw [if_pos (by simpa using e4), if_neg (by omega), if_neg (by omega), if_pos e4]
    exact ⟨by unfold inI; omega, trivial, rfl, trivial⟩
  rw [if_neg (by simpa using e4)]
  by_cases e5 : l.1 = 5
  · rw [if_pos (by simpa using e5), if_neg (show ¬ l.1 = 2 by omega), if_neg (show ¬ l.1 = 3 by omega), if_neg (show ¬ l.1 = 4 by omega), if_pos e5]
    simp only [decide_eq_true_eq]
    split
    · exact ⟨trivial, by congr 1; omega, trivial⟩
    · exact ⟨trivial, by congr 1; omega, trivial⟩
  rw [if_neg (by simpa using e5)]
  by_cases e6 : l.1 = 6
  · rw [if_pos (by simpa using e6), if_neg (show ¬ l.1 = 2 by omega), if_neg (show ¬ l.1 = 3 by omega), if_neg (show ¬ l.1 = 4 by omega), if_neg (show ¬ l.1 = 5 by omega)]
    simp only [decide_eq_true_eq]
    split
    · exact ⟨trivial, by congr 1; omega, trivial⟩
    · exact ⟨trivial, by congr 1; omega, trivial⟩
  rw [if_neg (by simpa using e6), if_pos (by omega)]
  exact ⟨trivial, rfl, trivial⟩
abbrev cTraceR : Con := { A := (.cons (.sl tL) (.cons (.sl .int) (.cons (.sl .int) (.cons (.sl .int) .nil)))), R := (.cons (.osl tStp) (.cons (.sl .int) .nil)), pre := fun x => validP x.1 = 0 ∧ validS x.2.1 = true ∧ x.2.2.1 = [], F := fun x => (visits x.1 noFrc x.2.1, runS x.1 x.2.1, ()) }
def cTraceR_0 (Λ1 : Int → (List Step1) → (List Int) → Prop) (Λ2 : Int → (List Int) → (List Step1) → Int → Prop) (Λ3 : Int → Int → (List Int) → (List Step1) → Int → Int → Prop) (p : (List Lin)) (in_ : (List Int)) (lines : (List Int)) (values : (List Int)) (y0 : (List Step1)) (y1 : (List Int)) : Prop :=
  List.length ([] : List Int) + List.length in_ ≤ 4294967296 ∧ Λ1 (0 : Int) ([] : List Step1) (([] : List Int) ++ in_)
def cTraceR_1 (Λ1 : Int → (List Step1) → (List Int) → Prop) (Λ2 : Int → (List Int) → (List Step1) → Int → Prop) (Λ3 : Int → Int → (List Int) → (List Step1) → Int → Int → Prop) (p : (List Lin)) (in_ : (List Int)) (lines : (List Int)) (values : (List Int)) (y0 : (List Step1)) (y1 : (List Int))  (i_1 : Int) (out_1 : (List Step1)) (now_1 : (List Int)) : Prop :=
  if (decide (i_1 < (List.length p : Int))) = true then (List.length ([] : List Int) + List.length now_1 ≤ 4294967296 ∧ (List.length out_1 + List.length ([(i_1, (([] : List Int) ++ now_1), ())]) ≤ 4294967296 ∧ (idx i_1 (List.length p : Int) ∧ (inI (i_1 + (1 : Int)) ∧ (if ((List.getD p (Int.toNat i_1) tL.dflt).1 == (7 : Int)) = true then (idx ((List.getD p (Int.toNat i_1) tL.dflt).2.2.1) (List.length now_1 : Int) ∧ (idx ((List.getD p (Int.toNat i_1) tL.dflt).2.2.2.1) (List.length now_1 : Int) ∧ (True ∧ (if (bif true then (decide ((List.getD now_1 (Int.toNat ((List.getD p (Int.toNat i_1) tL.dflt).2.2.1)) 0) < (List.getD now_1 (Int.toNat ((List.getD p (Int.toNat i_1) tL.dflt).2.2.2.1)) 0))) else false) = true then (inI ((i_1 + (1 : Int)) + (List.getD p (Int.toNat i_1) tL.dflt).2.1) ∧ Λ2 i_1 now_1 out_1 ((i_1 + (1 : Int)) + (List.getD p (Int.toNat i_1) tL.dflt).2.1)) else Λ2 i_1 now_1 out_1 (i_1 + (1 : Int)))))) else (false = false ∧ Λ2 i_1 now_1 out_1 (i_1 + (1 : Int)))))))) else (now_1 = y1 ∧ out_1 = y0)
def cTraceR_2 (Λ1 : Int → (List Step1) → (List Int) → Prop) (Λ2 : Int → (List Int) → (List Step1) → Int → Prop) (Λ3 : Int → Int → (List Int) → (List Step1) → Int → Int → Prop) (p : (List Lin)) (in_ : (List Int)) (lines : (List Int)) (values : (List Int)) (y0 : (List Step1)) (y1 : (List Int)) (i_1 : Int) (now_1 : (List Int)) (out_1 : (List Step1)) (i_2 : Int) : Prop :=
  True ∧ (if (!(!((List.getD p (Int.toNat i_1) tL.dflt).1 == 0) && !((List.getD p (Int.toNat i_1) tL.dflt).1 == 7))) = true then Λ1 i_2 (out_1 ++ [(i_1, (([] : List Int) ++ now_1), ())]) now_1 else ((validLine (List.getD p (Int.toNat i_1) tL.dflt) = true ∧ writes (List.getD p (Int.toNat i_1) tL.dflt) = true ∧ validS now_1 = true) ∧ Λ3 i_1 i_2 now_1 out_1 (cut (wval (List.getD p (Int.toNat i_1) tL.dflt) now_1)) (0 : Int)))
def cTraceR_3 (Λ1 : Int → (List Step1) → (List Int) → Prop) (Λ2 : Int → (List Int) → (List Step1) → Int → Prop) (Λ3 : Int → Int → (List Int) → (List Step1) → Int → Int → Prop) (p : (List Lin)) (in_ : (List Int)) (lines : (List Int)) (values : (List Int)) (y0 : (List Step1)) (y1 : (List Int)) (i_1 : Int) (i_2 : Int) (now_1 : (List Int)) (out_1 : (List Step1)) (n_3 : Int) (k_3 : Int) : Prop :=
  if (decide (k_3 < (List.length lines : Int))) = true then (idx k_3 (List.length lines : Int) ∧ (inI (i_2 - (1 : Int)) ∧ (if ((List.getD lines (Int.toNat k_3) 0) == (i_2 - (1 : Int))) = true then (idx k_3 (List.length values : Int) ∧ (inI (k_3 + (1 : Int)) ∧ Λ3 i_1 i_2 now_1 out_1 (List.getD values (Int.toNat k_3) 0) (k_3 + (1 : Int)))) else (inI (k_3 + (1 : Int)) ∧ Λ3 i_1 i_2 now_1 out_1 n_3 (k_3 + (1 : Int)))))) else (idx ((List.getD p (Int.toNat i_1) tL.dflt).2.1) (List.length now_1 : Int) ∧ Λ1 i_2 (out_1 ++ [(i_1, (([] : List Int) ++ now_1), ())]) (List.set now_1 (Int.toNat ((List.getD p (Int.toNat i_1) tL.dflt).2.1)) n_3))
theorem cTraceR_law (h : ∀ (p : (List Lin)) (in_ : (List Int)) (lines : (List Int)) (values : (List Int)), cTraceR.A.wf (p, in_, lines, values, ()) → (validP p = 0 ∧ validS in_ = true ∧ lines = []) → ∀ (Λ1 : Int → (List Step1) → (List Int) → Prop) (Λ2 : Int → (List Int) → (List Step1) → Int → Prop) (Λ3 : Int → Int → (List Int) → (List Step1) → Int → Int → Prop), (∀ (i_1 : Int) (out_1 : (List Step1)) (now_1 : (List Int)), cTraceR_1 Λ1 Λ2 Λ3 p in_ lines values (visits p noFrc in_) (runS p in_) i_1 out_1 now_1 → Λ1 i_1 out_1 now_1) → (∀ (i_1 : Int) (now_1 : (List Int)) (out_1 : (List Step1)) (i_2 : Int), cTraceR_2 Λ1 Λ2 Λ3 p in_ lines values (visits p noFrc in_) (runS p in_) i_1 now_1 out_1 i_2 → Λ2 i_1 now_1 out_1 i_2) → (∀ (i_1 : Int) (i_2 : Int) (now_1 : (List Int)) (out_1 : (List Step1)) (n_3 : Int) (k_3 : Int), cTraceR_3 Λ1 Λ2 Λ3 p in_ lines values (visits p noFrc in_) (runS p in_) i_1 i_2 now_1 out_1 n_3 k_3 → Λ3 i_1 i_2 now_1 out_1 n_3 k_3) → cTraceR_0 Λ1 Λ2 Λ3 p in_ lines values (visits p noFrc in_) (runS p in_)) : ConOK Go.Proofs.Try.prog 148 cTraceR := by
  refine lawL (Γ := [(159, cValueR), (158, cWritesR)]) (Θ := Th) (n := 87) [([1, 1, 1, 0, 1, 0], ⟨[(0, false), (2, false), (3, false), (10, true), (11, true), (12, true)], [(10, true), (16, true)]⟩), ([1, 1, 1, 0, 1, 0, 0, 1, 0, 1, 1, 1, 2], ⟨[(0, false), (2, false), (3, false), (10, true), (11, true), (12, true), (13, true)], [(10, true), (13, true), (16, true)]⟩), ([1, 1, 1, 0, 1, 0, 0, 1, 0, 1, 1, 1, 1, 1, 1, 0, 1, 0], ⟨[(0, false), (2, false), (3, false), (10, true), (11, true), (12, true), (13, true), (14, false), (15, true)], [(10, true), (13, true), (16, true)]⟩)] ⟨cValueR_ok, cWritesR_ok, trivial⟩ (by kernel_rfl) th_ok mix_ok Go.Proofs.Try.func148 (by kernel_rfl) ?_
  intro x hw hp Λ hC
  have h0 := h x.1 x.2.1 x.2.2.1 x.2.2.2.1 hw hp (fun i_1 out_1 now_1 => Λ [1, 1, 1, 0, 1, 0] ([(0, .d false (.sl tL) x.1), (2, .d false (.sl .int) x.2.2.1), (3, .d false (.sl .int) x.2.2.2.1), (10, .own 10 0), (11, .own 16 0), (12, .d true .int i_1)], [(10, .sl true tStp out_1), (16, .sl true .int now_1)])) (fun i_1 now_1 out_1 i_2 => Λ [1, 1, 1, 0, 1, 0, 0, 1, 0, 1, 1, 1, 2] ([(0, .d false (.sl tL) x.1), (2, .d false (.sl .int) x.2.2.1), (3, .d false (.sl .int) x.2.2.2.1), (10, .own 10 0), (11, .own 16 0), (12, .d true .int i_2), (13, .ptr 13 0 [])], [(10, .sl true tStp (out_1 ++ [(i_1, (([] : List Int) ++ now_1), ())])), (13, .box true tL (List.getD x.1 (Int.toNat i_1) tL.dflt)), (16, .sl true .int now_1)])) (fun i_1 i_2 now_1 out_1 n_3 k_3 => Λ [1, 1, 1, 0, 1, 0, 0, 1, 0, 1, 1, 1, 1, 1, 1, 0, 1, 0] ([(0, .d false (.sl tL) x.1), (2, .d false (.sl .int) x.2.2.1), (3, .d false (.sl .int) x.2.2.2.1), (10, .own 10 0), (11, .own 16 0), (12, .d true .int i_2), (13, .ptr 13 0 []), (14, .d false .int n_3), (15, .d true .int k_3)], [(10, .sl true tStp (out_1 ++ [(i_1, (([] : List Int) ++ now_1), ())])), (13, .box true tL (List.getD x.1 (Int.toNat i_1) tL.dflt)), (16, .sl true .int now_1)])) (fun i_1 out_1 now_1 hb => hC [1, 1, 1, 0, 1, 0] ([(0, .d false (.sl tL) x.1), (2, .d false (.sl .int) x.2.2.1), (3, .d false (.sl .int) x.2.2.2.1), (10, .own 10 0), (11, .own 16 0), (12, .d true .int i_1)], [(10, .sl true tStp out_1), (16, .sl true .int now_1)]) (Eq.mpr (by kernel_rfl) hb)) (fun i_1 now_1 out_1 i_2 hb => hC [1, 1, 1, 0, 1, 0, 0, 1, 0, 1, 1, 1, 2] ([(0, .d false (.sl tL) x.1), (2, .d false (.sl .int) x.2.2.1), (3, .d false (.sl .int) x.2.2.2.1), (10, .own 10 0), (11, .own 16 0), (12, .d true .int i_2), (13, .ptr 13 0 [])], [(10, .sl true tStp (out_1 ++ [(i_1, (([] : List Int) ++ now_1), ())])), (13, .box true tL (List.getD x.1 (Int.toNat i_1) tL.dflt)), (16, .sl true .int now_1)]) (Eq.mpr (by kernel_rfl) hb)) (fun i_1 i_2 now_1 out_1 n_3 k_3 hb => hC [1, 1, 1, 0, 1, 0, 0, 1, 0, 1, 1, 1, 1, 1, 1, 0, 1, 0] ([(0, .d false (.sl tL) x.1), (2, .d false (.sl .int) x.2.2.1), (3, .d false (.sl .int) x.2.2.2.1), (10, .own 10 0), (11, .own 16 0), (12, .d true .int i_2), (13, .ptr 13 0 []), (14, .d false .int n_3), (15, .d true .int k_3)], [(10, .sl true tStp (out_1 ++ [(i_1, (([] : List Int) ++ now_1), ())])), (13, .box true tL (List.getD x.1 (Int.toNat i_1) tL.dflt)), (16, .sl true .int now_1)]) (Eq.mpr (by kernel_rfl) hb))
  exact Eq.mpr (by kernel_rfl) h0
theorem cTraceR_ok : ConOK Go.Proofs.Try.prog 148 cTraceR := by
  refine cTraceR_law ?_
  intro p in_ lines values hw hp Λ1 Λ2 Λ3 h1 h2 h3
  unfold cTraceR_0
  obtain ⟨p1, p2, p3⟩ := hp
  obtain ⟨h8, hall⟩ := validP_ok p1
  have l4 := validS_len p2
  have key : ∀ (f i : Nat) (s : List Int) (out : List Vst), validS s = true → p.length < i + f → out.length ≤ i → visits p noFrc in_ = out ++ (runF p noFrc f i s).1 → runS p in_ = (runF p noFrc f i s).2 → Λ1 (i : Int) out s := by
    intro f
    induction f with
    | zero =>
      intro i s out hs hf ho e1 e2
      apply h1; unfold cTraceR_1; rw [if_neg (by simp; omega)]
      exact ⟨e2.symm, by rw [e1]; simp [runF]⟩
    | succ f ih =>
      intro i s out hs hf ho e1 e2
      rw [runF] at e1 e2
      by_cases hi : i < p.length
      · rw [if_pos hi] at e1 e2
        have hl := validLine_at hall hi
        have hgt := stepTo_gt (List.getD p i tL.dflt) i s
        have nx := ih (stepTo (List.getD p i tL.dflt) i s) (stepS noFrc (List.getD p i tL.dflt) i s) (out ++ [((i : Int), s, ())]) (stepS_ok _ _ i hs) (by omega) (by rw [List.length_append]; simp only [List.length_cons, List.length_nil]; omega) (by rw [e1]; simp) e2
        have l4s := validS_len hs
        have J : ∀ j : Nat, j = stepTo (List.getD p i tL.dflt) i s → Λ2 (i : Int) s out (j : Int) := by
          intro j hj
          apply h2; unfold cTraceR_2; rw [Int.toNat_natCast, writes_eq hl]
          refine ⟨trivial, ?_⟩
          rw [List.nil_append]
          cases hw : writes (List.getD p i tL.dflt)
          · rw [if_pos (by rfl)]
            unfold stepS at nx
            rw [if_neg (by rw [hw]; simp), ← hj] at nx
            exact nx
          · rw [if_neg (by simp)]
            refine ⟨⟨hl, rfl, hs⟩, ?_⟩
            apply h3; unfold cTraceR_3
            rw [p3, if_neg (by simp), Int.toNat_natCast, List.nil_append]
            have hr := line_regs hl
            have it := hr.2.2.1 (by unfold writes at hw; simpa using hw)
            unfold stepS wnum noFrc at nx
            rw [if_pos hw, ← hj] at nx
            exact ⟨⟨it.1, by omega⟩, nx⟩
        apply h1; unfold cTraceR_1; rw [if_pos (by simpa using hi), Int.toNat_natCast]
        have hr := line_regs hl
        have hn : inI ((i : Int) + 1) := inI_succ hi (by omega)
        refine ⟨by simp only [List.length_nil]; omega, by simp only [List.length_cons, List.length_nil]; omega, idx_nat hi, hn, ?_⟩
        unfold stepTo at J
        by_cases h7 : (List.getD p i tL.dflt).1 = 7
        · rw [if_pos (by simpa using h7)]
          have ix := hr.1 (by omega)
          have iy := hr.2.1 (by omega)
          have it := hr.2.2.2.1 h7
          refine ⟨⟨ix.1, by omega⟩, ⟨iy.1, by omega⟩, trivial, ?_⟩
          by_cases hc : Rg s (List.getD p i tL.dflt).2.2.1 < Rg s (List.getD p i tL.dflt).2.2.2.1
          · rw [if_pos (by show decide _ = true; exact decide_eq_true hc)]
            refine ⟨by unfold inI; omega, ?_⟩
            have := J (i + 1 + (List.getD p i tL.dflt).2.1.toNat) (by rw [if_pos ⟨h7, hc⟩])
            rw [show ((i : Int) + 1 + (List.getD p i tL.dflt).2.1) = ((i + 1 + (List.getD p i tL.dflt).2.1.toNat : Nat) : Int) by omega]
            exact this
          · rw [if_neg (by show ¬ decide _ = true; rw [decide_eq_true_eq]; exact hc)]
            exact J (i + 1) (by rw [if_neg (by rintro ⟨_, h⟩; exact hc h)])
        · rw [if_neg (by simpa using h7)]
          exact ⟨rfl, J (i + 1) (by rw [if_neg (by rintro ⟨h, _⟩; exact h7 h)])⟩
      · rw [if_neg hi] at e1 e2
        apply h1; unfold cTraceR_1; rw [if_neg (by simpa using hi)]
        exact ⟨e2.symm, by rw [e1]; simp⟩
  refine ⟨by simp only [List.length_nil]; omega, ?_⟩
  rw [List.nil_append]
  exact key (p.length + 1) 0 in_ [] p2 (by omega) (Nat.zero_le _) rfl rfl
abbrev cRunR : Con := { A := (.cons (.sl tL) (.cons (.sl .int) .nil)), R := (.cons (.sl .int) (.cons .int .nil)), pre := fun x => True, F := fun x => ((if err1 x.1 x.2.1 = 0 then runS x.1 x.2.1 else []), err1 x.1 x.2.1, ()) }
def cRunR_0  (p : (List Lin)) (in_ : (List Int)) (y0 : (List Int)) (y1 : Int) : Prop :=
  True ∧ (if (((if validP p = 0 then argErr (validS in_) else validP p)) != (0 : Int)) = true then (([] : List Int) = y0 ∧ ((if validP p = 0 then argErr (validS in_) else validP p)) = y1 ∧ True) else ((validP p = 0 ∧ validS in_ = true ∧ ([] : List Int) = []) ∧ ((runS p in_) = y0 ∧ (0 : Int) = y1 ∧ True)))
theorem cRunR_law (h : ∀ (p : (List Lin)) (in_ : (List Int)), cRunR.A.wf (p, in_, ()) → cRunR_0  p in_ (if err1 p in_ = 0 then runS p in_ else []) (err1 p in_)) : ConOK Go.Proofs.Try.prog 140 cRunR := by
  refine lawL (Γ := [(147, cAskedR), (148, cTraceR)]) (Θ := Th) (n := 22) [] ⟨cAskedR_ok, cTraceR_ok, trivial⟩ (by kernel_rfl) th_ok mix_ok Go.Proofs.Try.func140 (by kernel_rfl) ?_
  intro x hw hp Λ hC
  have h0 := h x.1 x.2.1 hw  
  exact Eq.mpr (by kernel_rfl) h0
theorem cRunR_ok : ConOK Go.Proofs.Try.prog 140 cRunR := by
  refine cRunR_law ?_
  intro p in_ hw
  unfold cRunR_0
  refine ⟨trivial, ?_⟩
  show if (err1 p in_ != 0) = true then _ else _
  by_cases h : err1 p in_ = 0
  · rw [if_neg (by simp [h]), if_pos h, h]
    have := err1_ok h
    exact ⟨⟨this.1, this.2, rfl⟩, rfl, rfl, trivial⟩
  · rw [if_pos (by simpa using h), if_neg h]
    exact ⟨rfl, rfl, trivial⟩
end Go.Tk
/- Plain facts: tests and contracts (layer 2). No program in sight. -/
set_option linter.unusedSimpArgs false
set_option linter.unusedVariables false
namespace Go.Tk
open Go Go.RowKit

end Go.Tk
set_option linter.unusedSimpArgs false
set_option linter.unusedVariables false
namespace Go.Tk
open Go Go.RowKit

abbrev cWithin2 : Con := { A := (.cons .int (.cons .int (.cons .int .nil))), R := (.cons .bool .nil), pre := fun x => True, F := fun x => (within x.1 x.2.1 x.2.2.1, ()) }
def cWithin2_0  (n : Int) (lo : Int) (hi : Int) (y0 : Bool) : Prop :=
  if (decide (lo ≤ n)) = true then (True ∧ ((bif true then (decide (n ≤ hi)) else false) = y0 ∧ True)) else (false = false ∧ (false = y0 ∧ True))
theorem cWithin2_law (h : ∀ (n : Int) (lo : Int) (hi : Int), cWithin2.A.wf (n, lo, hi, ()) → cWithin2_0  n lo hi (within n lo hi)) : ConOK Go.Proofs.Try.prog 139 cWithin2 := by
  refine lawL (Γ := []) (Θ := Th) (n := 15) [] trivial (by kernel_rfl) th_ok mix_ok Go.Proofs.Try.func139 (by kernel_rfl) ?_
  intro x hw hp Λ hC
  have h0 := h x.1 x.2.1 x.2.2.1 hw  
  exact Eq.mpr (by kernel_rfl) h0
theorem cWithin2_ok : ConOK Go.Proofs.Try.prog 139 cWithin2 := by
  refine cWithin2_law ?_
  intro n lo hi hw
  unfold cWithin2_0
  unfold within
  split <;> simp_all
  omega
abbrev cIsVal2 : Con := { A := (.cons .int .nil), R := (.cons .bool .nil), pre := fun x => True, F := fun x => (isVal x.1, ()) }
def cIsVal2_0  (n : Int) (y0 : Bool) : Prop :=
  True ∧ ((within n (-999 : Int) (999 : Int)) = y0 ∧ True)
theorem cIsVal2_law (h : ∀ (n : Int), cIsVal2.A.wf (n, ()) → cIsVal2_0  n (isVal n)) : ConOK Go.Proofs.Try.prog 128 cIsVal2 := by
  refine lawL (Γ := [(139, cWithin2)]) (Θ := Th) (n := 5) [] ⟨cWithin2_ok, trivial⟩ (by kernel_rfl) th_ok mix_ok Go.Proofs.Try.func128 (by kernel_rfl) ?_
  intro x hw hp Λ hC
  have h0 := h x.1 hw  
  exact Eq.mpr (by kernel_rfl) h0
theorem cIsVal2_ok : ConOK Go.Proofs.Try.prog 128 cIsVal2 := by
  refine cIsVal2_law ?_
  intro n hw
  unfold cIsVal2_0
  exact ⟨trivial, rfl, trivial⟩
abbrev cIsReg2 : Con := { A := (.cons .int .nil), R := (.cons .bool .nil), pre := fun x => True, F := fun x => (isReg x.1, ()) }
def cIsReg2_0  (n : Int) (y0 : Bool) : Prop :=
  True ∧ ((within n (0 : Int) (3 : Int)) = y0 ∧ True)
theorem cIsReg2_law (h : ∀ (n : Int), cIsReg2.A.wf (n, ()) → cIsReg2_0  n (isReg n)) : ConOK Go.Proofs.Try.prog 127 cIsReg2 := by
  refine lawL (Γ := [(139, cWithin2)]) (Θ := Th) (n := 5) [] ⟨cWithin2_ok, trivial⟩ (by kernel_rfl) th_ok mix_ok Go.Proofs.Try.func127 (by kernel_rfl) ?_
  intro x hw hp Λ hC
  have h0 := h x.1 hw  
  exact Eq.mpr (by kernel_rfl) h0
theorem cIsReg2_ok : ConOK Go.Proofs.Try.prog 127 cIsReg2 := by
  refine cIsReg2_law ?_
  intro n hw
  unfold cIsReg2_0
  exact ⟨trivial, rfl, trivial⟩
abbrev cIsState : Con := { A := (.cons (.sl .int) .nil), R := (.cons .bool .nil), pre := fun x => True, F := fun x => (validS x.1, ()) }
def cIsState_0  (in_ : (List Int)) (y0 : Bool) : Prop :=
  True ∧ (((argErr (validS in_)) == (0 : Int)) = y0 ∧ True)
theorem cIsState_law (h : ∀ (in_ : (List Int)), cIsState.A.wf (in_, ()) → cIsState_0  in_ (validS in_)) : ConOK Go.Proofs.Try.prog 126 cIsState := by
  refine lawL (Γ := [(138, cValS)]) (Θ := Th) (n := 6) [] ⟨cValS_ok, trivial⟩ (by kernel_rfl) th_ok mix_ok Go.Proofs.Try.func126 (by kernel_rfl) ?_
  intro x hw hp Λ hC
  have h0 := h x.1 hw  
  exact Eq.mpr (by kernel_rfl) h0
theorem cIsState_ok : ConOK Go.Proofs.Try.prog 126 cIsState := by
  refine cIsState_law ?_
  intro in_ hw
  unfold cIsState_0
  refine ⟨trivial, ?_⟩
  cases validS in_ <;> exact ⟨rfl, trivial⟩
abbrev cWithinR2 : Con := { A := (.cons .int (.cons .int (.cons .int .nil))), R := (.cons .bool .nil), pre := fun x => True, F := fun x => (within x.1 x.2.1 x.2.2.1, ()) }
def cWithinR2_0  (n : Int) (lo : Int) (hi : Int) (y0 : Bool) : Prop :=
  if (decide (n ≥ lo)) = true then (True ∧ ((bif true then (decide (n ≤ hi)) else false) = y0 ∧ True)) else (false = false ∧ (false = y0 ∧ True))
theorem cWithinR2_law (h : ∀ (n : Int) (lo : Int) (hi : Int), cWithinR2.A.wf (n, lo, hi, ()) → cWithinR2_0  n lo hi (within n lo hi)) : ConOK Go.Proofs.Try.prog 130 cWithinR2 := by
  refine lawL (Γ := []) (Θ := Th) (n := 15) [] trivial (by kernel_rfl) th_ok mix_ok Go.Proofs.Try.func130 (by kernel_rfl) ?_
  intro x hw hp Λ hC
  have h0 := h x.1 x.2.1 x.2.2.1 hw  
  exact Eq.mpr (by kernel_rfl) h0
theorem cWithinR2_ok : ConOK Go.Proofs.Try.prog 130 cWithinR2 := by
  refine cWithinR2_law ?_
  intro n lo hi hw
  unfold cWithinR2_0
  unfold within
  split <;> simp_all
  omega
end Go.Tk
/- Plain facts: tests (layer 2). No program in sight. -/
set_option linter.unusedSimpArgs false
set_option linter.unusedVariables false
namespace Go.Tk
open Go Go.RowKit

def isTst (t : Tst) : Bool := validS t.1 && isReg t.2.1 && isVal t.2.2.1
def validT (l : List Tst) : Int := if l.length > 8 then 3 else argErr (l.all isTst)
def firstErr : List (List Lin) → Int
  | [] => 0
  | p :: ps => if validP p = 0 then firstErr ps else validP p
def errT (ps : List (List Lin)) (l : List Tst) : Int := if firstErr ps = 0 then validT l else firstErr ps
def endT (p : List Lin) (t : Tst) : Int := Rg (runS p t.1) t.2.1
def passT (p : List Lin) (t : Tst) : Bool := endT p t == t.2.2.1
/-- The places of what is so. -/
def whereTo (f : Tst → Bool) (l : List Tst) : Nat → List Int
  | 0 => []
  | n + 1 => whereTo f l n ++ if f (l.getD n tTs.dflt) = true then [(n : Int)] else []
def whereL (f : Tst → Bool) (l : List Tst) : List Int := whereTo f l l.length

theorem whereTo_len (f : Tst → Bool) (l : List Tst) : ∀ n, (whereTo f l n).length ≤ n
  | 0 => Nat.le_refl _
  | n + 1 => by
    unfold whereTo
    rw [List.length_append]
    have := whereTo_len f l n
    split <;> simp <;> omega
theorem whereTo_both (f : Tst → Bool) (l : List Tst) : ∀ n, (whereTo f l n).length + (whereTo (fun t => !f t) l n).length = n
  | 0 => rfl
  | n + 1 => by
    unfold whereTo
    rw [List.length_append, List.length_append]
    have := whereTo_both f l n
    cases f (l.getD n tTs.dflt) <;> simp <;> omega
theorem where_both (f : Tst → Bool) (l : List Tst) : (whereL f l).length + (whereL (fun t => !f t) l).length = l.length := whereTo_both f l l.length
theorem whereL_len (f : Tst → Bool) (l : List Tst) : (whereL f l).length ≤ l.length := whereTo_len f l l.length
theorem whereTo_congr {f g : Tst → Bool} (l : List Tst) : ∀ n, n ≤ l.length → (∀ t ∈ l, f t = g t) → whereTo f l n = whereTo g l n
  | 0, _, _ => rfl
  | n + 1, h, e => by
    unfold whereTo
    rw [whereTo_congr l n (by omega) e, e _ (mem_getD (by omega))]

theorem isTst_iff {t : Tst} : isTst t = true ↔ validS t.1 = true ∧ (0 ≤ t.2.1 ∧ t.2.1 ≤ 3) ∧ (-999 ≤ t.2.2.1 ∧ t.2.2.1 ≤ 999) := by
  unfold isTst isReg isVal
  rw [Bool.and_eq_true, Bool.and_eq_true, within_iff, within_iff, and_assoc]
theorem validT_ok {l : List Tst} (h : validT l = 0) : l.length ≤ 8 ∧ ∀ t ∈ l, isTst t = true := by
  unfold validT at h
  split at h
  · omega
  · exact ⟨by omega, fun t ht => List.all_eq_true.1 (argErr_zero.1 h) t ht⟩
theorem errT_ok {p : List Lin} {l : List Tst} (h : errT [p] l = 0) : validP p = 0 ∧ validT l = 0 := by
  unfold errT firstErr firstErr at h
  by_cases e : validP p = 0
  · rw [if_pos e, if_pos rfl] at h; exact ⟨e, h⟩
  · rw [if_neg e, if_neg e] at h; exact absurd h e
theorem errT2_ok {p q : List Lin} {l : List Tst} (h : errT [p, q] l = 0) : validP p = 0 ∧ validP q = 0 ∧ validT l = 0 := by
  unfold errT firstErr firstErr firstErr at h
  by_cases e : validP p = 0
  · rw [if_pos e] at h
    by_cases e2 : validP q = 0
    · rw [if_pos e2, if_pos rfl] at h; exact ⟨e, e2, h⟩
    · rw [if_neg e2, if_neg e2] at h; exact absurd h e2
  · rw [if_neg e, if_neg e] at h; exact absurd h e

/-! ### Tables -/
def markTo (l : List Int) (r : List Int) : Nat → List Int
  | 0 => r
  | n + 1 => (markTo l r n).set (l.getD n 0).toNat 1
theorem markTo_len (l r : List Int) : ∀ n, (markTo l r n).length = r.length
  | 0 => rfl
  | n + 1 => by unfold markTo; rw [List.length_set, markTo_len l r n]
def rowT (p : List Lin) (t : Tst) : List Int := markTo (doneS p t.1) (List.replicate p.length 0) (doneS p t.1).length
theorem rowT_len (p : List Lin) (t : Tst) : (rowT p t).length = p.length := by unfold rowT; rw [markTo_len, List.length_replicate]
def tableT (p : List Lin) (l : List Tst) : List (List Int) := l.map (rowT p)
theorem doneS_ok {p : List Lin} {s : List Int} (h : validS s = true) {i : Nat} (hi : i < (doneS p s).length) : 0 ≤ (doneS p s).getD i 0 ∧ (doneS p s).getD i 0 < p.length := by
  have g : (doneS p s).getD i 0 ∈ doneS p s := mem_getD hi
  unfold doneS at g
  obtain ⟨v, hv, e⟩ := List.mem_map.1 g
  have := visits_ok h v hv
  unfold doneS
  omega
theorem doneS_len (p : List Lin) (s : List Int) : (doneS p s).length ≤ p.length := by unfold doneS; rw [List.length_map]; exact visits_len _ _ _
theorem map_take_next {α β : Type} (f : α → β) (l : List α) (d : α) {i : Nat} (h : i < l.length) : (l.map f).take (i + 1) = (l.map f).take i ++ [f (l.getD i d)] := by
  rw [← List.map_take, ← List.map_take, take_snoc d h, List.map_append]; rfl
/-- The lines done in some test. -/
def covTo (rows : List (List Int)) : Nat → List Int
  | 0 => []
  | n + 1 => covTo rows n ++ if (rows.any fun r => r.getD n 0 == 1) = true then [(n : Int)] else []
theorem covTo_len (rows : List (List Int)) : ∀ n, (covTo rows n).length ≤ n
  | 0 => Nat.le_refl _
  | n + 1 => by
    unfold covTo
    rw [List.length_append]
    have := covTo_len rows n
    split <;> simp <;> omega
def coverT (p : List Lin) (l : List Tst) : List Int := covTo (tableT p l) p.length
theorem table_row {p : List Lin} {l : List Tst} {r : List Int} (h : r ∈ tableT p l) : r.length = p.length := by
  obtain ⟨t, _, rfl⟩ := List.mem_map.1 h
  exact rowT_len p t
def tellsT (p q : List Lin) (l : List Tst) : List Int := whereL (fun t => endT p t != endT q t) l
theorem tells_comm (p q : List Lin) (l : List Tst) : tellsT q p l = tellsT p q l := by
  unfold tellsT
  congr 1
  funext t
  exact bne_comm
def failL (p : List Lin) (l : List Tst) : List Int := whereL (fun t => !passT p t) l
end Go.Tk
set_option linter.unusedSimpArgs false
set_option linter.unusedVariables false
namespace Go.Tk
open Go Go.RowKit

abbrev cIsTest : Con := { A := (.cons tTs .nil), R := (.cons .bool .nil), pre := fun x => True, F := fun x => (isTst x.1, ()) }
def cIsTest_0  (t : Tst) (y0 : Bool) : Prop :=
  True ∧ (if (validS t.1) = true then (True ∧ (True ∧ (if (bif true then (isReg t.2.1) else false) = true then (True ∧ (True ∧ ((bif true then (isVal t.2.2.1) else false) = y0 ∧ True))) else (false = false ∧ (false = y0 ∧ True))))) else (false = false ∧ (false = false ∧ (false = y0 ∧ True))))
theorem cIsTest_law (h : ∀ (t : Tst), cIsTest.A.wf (t, ()) → cIsTest_0  t (isTst t)) : ConOK Go.Proofs.Try.prog 120 cIsTest := by
  refine lawL (Γ := [(127, cIsReg2), (126, cIsState), (128, cIsVal2)]) (Θ := Th) (n := 16) [] ⟨cIsReg2_ok, cIsState_ok, cIsVal2_ok, trivial⟩ (by kernel_rfl) th_ok mix_ok Go.Proofs.Try.func120 (by kernel_rfl) ?_
  intro x hw hp Λ hC
  have h0 := h x.1 hw  
  exact Eq.mpr (by kernel_rfl) h0
theorem cIsTest_ok : ConOK Go.Proofs.Try.prog 120 cIsTest := by
  refine cIsTest_law ?_
  intro t hw
  unfold cIsTest_0
  refine ⟨trivial, ?_⟩
  unfold isTst
  cases validS t.1
  · simp
  · cases isReg t.2.1 <;> simp
abbrev cNotTest : Con := { A := (.cons tTs .nil), R := (.cons .bool .nil), pre := fun x => True, F := fun x => (!(isTst x.1), ()) }
def cNotTest_0  (t : Tst) (y0 : Bool) : Prop :=
  True ∧ ((!(isTst t)) = y0 ∧ True)
theorem cNotTest_law (h : ∀ (t : Tst), cNotTest.A.wf (t, ()) → cNotTest_0  t (!(isTst t))) : ConOK Go.Proofs.Try.prog 119 cNotTest := by
  refine lawL (Γ := [(120, cIsTest)]) (Θ := Th) (n := 6) [] ⟨cIsTest_ok, trivial⟩ (by kernel_rfl) th_ok mix_ok Go.Proofs.Try.func119 (by kernel_rfl) ?_
  intro x hw hp Λ hC
  have h0 := h x.1 hw  
  exact Eq.mpr (by kernel_rfl) h0
theorem cNotTest_ok : ConOK Go.Proofs.Try.prog 119 cNotTest := by
  refine cNotTest_law ?_
  intro t hw
  unfold cNotTest_0
  exact ⟨trivial, rfl, trivial⟩
abbrev cIndexT : Con := { A := (.cons (.sl tTs) (.cons (.fn (.cons tTs .nil) (.cons .bool .nil)) .nil)), R := (.cons .int .nil), pre := fun x => ∀ r', tTs.wf r' → x.2.1.1 (r', ()), F := fun x => (idxF (fun r' => (x.2.1.2 (r', ())).1) x.1, ()) }
def cIndexT_0 (Λ1 : Int → Prop) (s : (List Tst)) (f : (T.fn (.cons tTs .nil) (.cons .bool .nil)).den) (y0 : Int) : Prop :=
  Λ1 (0 : Int)
def cIndexT_1 (Λ1 : Int → Prop) (s : (List Tst)) (f : (T.fn (.cons tTs .nil) (.cons .bool .nil)).den) (y0 : Int)  (t8_1 : Int) : Prop :=
  if (decide (t8_1 < (List.length s : Int))) = true then (idx t8_1 (List.length s : Int) ∧ (f.1 ((List.getD s (Int.toNat t8_1) tTs.dflt), ()) ∧ (if ((f.2 ((List.getD s (Int.toNat t8_1) tTs.dflt), ())).1) = true then (t8_1 = y0 ∧ True) else (inI (t8_1 + (1 : Int)) ∧ Λ1 (t8_1 + (1 : Int)))))) else ((-1 : Int) = y0 ∧ True)
theorem cIndexT_law (h : ∀ (s : (List Tst)) (f : (T.fn (.cons tTs .nil) (.cons .bool .nil)).den), cIndexT.A.wf (s, f, ()) → (∀ r', tTs.wf r' → f.1 (r', ())) → ∀ (Λ1 : Int → Prop), (∀ (t8_1 : Int), cIndexT_1 Λ1 s f (idxF (fun r' => (f.2 (r', ())).1) s) t8_1 → Λ1 t8_1) → cIndexT_0 Λ1 s f (idxF (fun r' => (f.2 (r', ())).1) s)) : ConOK Go.Proofs.Try.prog 125 cIndexT := by
  refine lawL (Γ := []) (Θ := Th) (n := 19) [([1, 0, 1, 0], ⟨[(0, false), (1, false), (7, true), (8, true)], []⟩)] trivial (by kernel_rfl) th_ok mix_ok Go.Proofs.Try.func125 (by kernel_rfl) ?_
  intro x hw hp Λ hC
  have h0 := h x.1 x.2.1 hw hp (fun t8_1 => Λ [1, 0, 1, 0] ([(0, .d false (.sl tTs) x.1), (1, .d false (.fn (.cons tTs .nil) (.cons .bool .nil)) x.2.1), (7, .d true .int (List.length x.1 : Int)), (8, .d true .int t8_1)], [])) (fun t8_1 hb => hC [1, 0, 1, 0] ([(0, .d false (.sl tTs) x.1), (1, .d false (.fn (.cons tTs .nil) (.cons .bool .nil)) x.2.1), (7, .d true .int (List.length x.1 : Int)), (8, .d true .int t8_1)], []) (Eq.mpr (by kernel_rfl) hb))
  exact Eq.mpr (by kernel_rfl) h0
theorem cIndexT_ok : ConOK Go.Proofs.Try.prog 125 cIndexT := by
  refine cIndexT_law ?_
  intro s f hw hp Λ1 h1
  unfold cIndexT_0
  refine upto (n := s.length) (Q := fun i => (s.take i).any (fun r => (f.2 (r, ())).1) = false → Λ1 i) ?_ ?_ 0 (Nat.zero_le _) rfl
  · intro ha
    rw [List.take_length] at ha
    apply h1; unfold cIndexT_1; rw [if_neg (by simp), idxF_none ha]
    exact ⟨rfl, trivial⟩
  · intro i hi ih ha
    apply h1; unfold cIndexT_1; rw [if_pos (by simpa using hi), Int.toNat_natCast]
    refine ⟨idx_nat hi, hp _ (hw.1.2 _ (mem_getD hi)), ?_⟩
    cases hv : (f.2 (List.getD s i tTs.dflt, ())).1
    · rw [if_neg (by simp)]
      exact ⟨inI_succ hi hw.1.1, ih (any_take_next (p := fun r => (f.2 (r, ())).1) tTs.dflt hi ha hv)⟩
    · rw [if_pos (by rfl), idxF_at (p := fun r => (f.2 (r, ())).1) tTs.dflt hi ha hv]
      exact ⟨rfl, trivial⟩
abbrev cContT : Con := { A := (.cons (.sl tTs) (.cons (.fn (.cons tTs .nil) (.cons .bool .nil)) .nil)), R := (.cons .bool .nil), pre := fun x => ∀ r', tTs.wf r' → x.2.1.1 (r', ()), F := fun x => (x.1.any (fun r' => (x.2.1.2 (r', ())).1), ()) }
def cContT_0  (s : (List Tst)) (f : (T.fn (.cons tTs .nil) (.cons .bool .nil)).den) (y0 : Bool) : Prop :=
  (∀ r', tTs.wf r' → f.1 (r', ())) ∧ ((decide ((idxF (fun r' => (f.2 (r', ())).1) s) ≥ (0 : Int))) = y0 ∧ True)
theorem cContT_law (h : ∀ (s : (List Tst)) (f : (T.fn (.cons tTs .nil) (.cons .bool .nil)).den), cContT.A.wf (s, f, ()) → (∀ r', tTs.wf r' → f.1 (r', ())) → cContT_0  s f (s.any (fun r' => (f.2 (r', ())).1))) : ConOK Go.Proofs.Try.prog 118 cContT := by
  refine lawL (Γ := [(125, cIndexT)]) (Θ := Th) (n := 9) [] ⟨cIndexT_ok, trivial⟩ (by kernel_rfl) th_ok mix_ok Go.Proofs.Try.func118 (by kernel_rfl) ?_
  intro x hw hp Λ hC
  have h0 := h x.1 x.2.1 hw hp  
  exact Eq.mpr (by kernel_rfl) h0
theorem cContT_ok : ConOK Go.Proofs.Try.prog 118 cContT := by
  refine cContT_law ?_
  intro s f hw hp
  unfold cContT_0
  exact ⟨hp, idxF_any _ _, trivial⟩
abbrev cValT : Con := { A := (.cons (.sl tTs) .nil), R := (.cons .int .nil), pre := fun x => True, F := fun x => (validT x.1, ()) }
def cValT_0  (l : (List Tst)) (y0 : Int) : Prop :=
  if (decide ((List.length l : Int) > (8 : Int))) = true then ((3 : Int) = y0 ∧ True) else ((∀ r', tTs.wf r' → (fun (xx : (Tst × Unit)) => True, fun (xx : (Tst × Unit)) => (!(isTst xx.1), ())).1 (r', ())) ∧ (if (l.any (fun r' => ((fun (xx : (Tst × Unit)) => True, fun (xx : (Tst × Unit)) => (!(isTst xx.1), ())).2 (r', ())).1)) = true then ((1 : Int) = y0 ∧ True) else ((0 : Int) = y0 ∧ True)))
theorem cValT_law (h : ∀ (l : (List Tst)), cValT.A.wf (l, ()) → cValT_0  l (validT l)) : ConOK Go.Proofs.Try.prog 105 cValT := by
  refine lawL (Γ := [(118, cContT), (119, cNotTest)]) (Θ := Th) (n := 8) [] ⟨cContT_ok, cNotTest_ok, trivial⟩ (by kernel_rfl) th_ok mix_ok Go.Proofs.Try.func105 (by kernel_rfl) ?_
  intro x hw hp Λ hC
  have h0 := h x.1 hw  
  exact Eq.mpr (by kernel_rfl) h0
theorem cValT_ok : ConOK Go.Proofs.Try.prog 105 cValT := by
  refine cValT_law ?_
  intro l hw
  unfold cValT_0
  unfold validT
  simp only [decide_eq_true_eq]
  by_cases h : l.length > 8
  · rw [if_pos (by omega), if_pos h]; exact ⟨rfl, trivial⟩
  · rw [if_neg (by omega), if_neg h]
    refine ⟨fun _ _ => trivial, ?_⟩
    show if (l.any fun r => !isTst r) = true then _ else _
    rw [any_not_all]
    cases l.all isTst <;> exact ⟨rfl, trivial⟩
abbrev cTested : Con := { A := (.cons (.sl tTs) (.cons (.sl (.sl tL)) .nil)), R := (.cons .int .nil), pre := fun x => True, F := fun x => (errT x.2.1 x.1, ()) }
def cTested_0 (Λ1 : Int → Prop) (l : (List Tst)) (programs : (List (List Lin))) (y0 : Int) : Prop :=
  Λ1 (0 : Int)
def cTested_1 (Λ1 : Int → Prop) (l : (List Tst)) (programs : (List (List Lin))) (y0 : Int)  (t10_1 : Int) : Prop :=
  if (decide (t10_1 < (List.length programs : Int))) = true then (idx t10_1 (List.length programs : Int) ∧ (True ∧ (if ((validP (List.getD programs (Int.toNat t10_1) ([] : List Lin))) != (0 : Int)) = true then ((validP (List.getD programs (Int.toNat t10_1) ([] : List Lin))) = y0 ∧ True) else (inI (t10_1 + (1 : Int)) ∧ Λ1 (t10_1 + (1 : Int)))))) else (True ∧ ((validT l) = y0 ∧ True))
theorem cTested_law (h : ∀ (l : (List Tst)) (programs : (List (List Lin))), cTested.A.wf (l, programs, ()) → ∀ (Λ1 : Int → Prop), (∀ (t10_1 : Int), cTested_1 Λ1 l programs (errT programs l) t10_1 → Λ1 t10_1) → cTested_0 Λ1 l programs (errT programs l)) : ConOK Go.Proofs.Try.prog 89 cTested := by
  refine lawL (Γ := [(73, cValP), (105, cValT)]) (Θ := Th) (n := 22) [([1, 0, 1, 0], ⟨[(0, false), (8, false), (9, true), (10, true)], []⟩)] ⟨cValP_ok, cValT_ok, trivial⟩ (by kernel_rfl) th_ok mix_ok Go.Proofs.Try.func89 (by kernel_rfl) ?_
  intro x hw hp Λ hC
  have h0 := h x.1 x.2.1 hw (fun t10_1 => Λ [1, 0, 1, 0] ([(0, .d false (.sl tTs) x.1), (8, .d false (.sl (.sl tL)) x.2.1), (9, .d true .int (List.length x.2.1 : Int)), (10, .d true .int t10_1)], [])) (fun t10_1 hb => hC [1, 0, 1, 0] ([(0, .d false (.sl tTs) x.1), (8, .d false (.sl (.sl tL)) x.2.1), (9, .d true .int (List.length x.2.1 : Int)), (10, .d true .int t10_1)], []) (Eq.mpr (by kernel_rfl) hb))
  exact Eq.mpr (by kernel_rfl) h0
theorem cTested_ok : ConOK Go.Proofs.Try.prog 89 cTested := by
  refine cTested_law ?_
  intro l programs hw Λ1 h1
  unfold cTested_0
  have key : ∀ n i, i + n = programs.length → firstErr programs = firstErr (programs.drop i) → Λ1 i := by
    intro n
    induction n with
    | zero =>
      intro i hi e
      apply h1; unfold cTested_1
      rw [if_neg (by simp; omega)]
      rw [List.drop_eq_nil_of_le (by omega)] at e
      refine ⟨trivial, ?_, trivial⟩
      unfold errT
      rw [if_pos (by rw [e]; rfl)]
    | succ n ih =>
      intro i hi e
      have hl : i < programs.length := by omega
      apply h1; unfold cTested_1
      rw [if_pos (by simpa using hl), Int.toNat_natCast]
      have hd : programs.drop i = programs.getD i [] :: programs.drop (i + 1) := by
        rw [List.drop_eq_getElem_cons hl]; simp [List.getD_eq_getElem?_getD, hl]
      rw [hd, firstErr] at e
      refine ⟨idx_nat hl, trivial, ?_⟩
      by_cases g : validP (programs.getD i []) = 0
      · rw [if_pos g] at e
        rw [if_neg (by simpa using g)]
        exact ⟨inI_succ hl hw.2.1.1, ih (i + 1) (by omega) e⟩
      · rw [if_neg g] at e
        rw [if_pos (by simpa using g)]
        refine ⟨?_, trivial⟩
        unfold errT
        rw [e, if_neg g]
  exact key programs.length 0 (by omega) rfl
abbrev cEnd : Con := { A := (.cons (.sl tL) (.cons (.sl .int) (.cons .int .nil))), R := (.cons .int .nil), pre := fun x => validP x.1 = 0 ∧ validS x.2.1 = true ∧ 0 ≤ x.2.2.1 ∧ x.2.2.1 ≤ 3, F := fun x => (Rg (runS x.1 x.2.1) x.2.2.1, ()) }
def cEnd_0  (p : (List Lin)) (in_ : (List Int)) (out : Int) (y0 : Int) : Prop :=
  True ∧ (idx out (List.length ((if err1 p in_ = 0 then runS p in_ else [])) : Int) ∧ ((List.getD ((if err1 p in_ = 0 then runS p in_ else [])) (Int.toNat out) 0) = y0 ∧ True))
theorem cEnd_law (h : ∀ (p : (List Lin)) (in_ : (List Int)) (out : Int), cEnd.A.wf (p, in_, out, ()) → (validP p = 0 ∧ validS in_ = true ∧ 0 ≤ out ∧ out ≤ 3) → cEnd_0  p in_ out (Rg (runS p in_) out)) : ConOK Go.Proofs.Try.prog 108 cEnd := by
  refine lawL (Γ := [(123, cRun)]) (Θ := Th) (n := 19) [] ⟨cRun_ok, trivial⟩ (by kernel_rfl) th_ok mix_ok Go.Proofs.Try.func108 (by kernel_rfl) ?_
  intro x hw hp Λ hC
  have h0 := h x.1 x.2.1 x.2.2.1 hw hp  
  exact Eq.mpr (by kernel_rfl) h0
theorem cEnd_ok : ConOK Go.Proofs.Try.prog 108 cEnd := by
  refine cEnd_law ?_
  intro p in_ out hw hp
  unfold cEnd_0
  obtain ⟨p1, p2, p3, p4⟩ := hp
  have e : err1 p in_ = 0 := by unfold err1; rw [if_pos p1, p2]; rfl
  have l4 := validS_len (runS_ok (p := p) p2)
  rw [if_pos e]
  exact ⟨trivial, ⟨p3, by omega⟩, rfl, trivial⟩
abbrev cPassT : Con := { A := (.cons (.sl tL) (.cons tTs .nil)), R := (.cons .bool .nil), pre := fun x => validP x.1 = 0 ∧ isTst x.2.1 = true, F := fun x => (passT x.1 x.2.1, ()) }
def cPassT_0  (p : (List Lin)) (t : Tst) (y0 : Bool) : Prop :=
  (validP p = 0 ∧ validS t.1 = true ∧ 0 ≤ t.2.1 ∧ t.2.1 ≤ 3) ∧ (((Rg (runS p t.1) t.2.1) == t.2.2.1) = y0 ∧ True)
theorem cPassT_law (h : ∀ (p : (List Lin)) (t : Tst), cPassT.A.wf (p, t, ()) → (validP p = 0 ∧ isTst t = true) → cPassT_0  p t (passT p t)) : ConOK Go.Proofs.Try.prog 90 cPassT := by
  refine lawL (Γ := [(108, cEnd)]) (Θ := Th) (n := 14) [] ⟨cEnd_ok, trivial⟩ (by kernel_rfl) th_ok mix_ok Go.Proofs.Try.func90 (by kernel_rfl) ?_
  intro x hw hp Λ hC
  have h0 := h x.1 x.2.1 hw hp  
  exact Eq.mpr (by kernel_rfl) h0
theorem cPassT_ok : ConOK Go.Proofs.Try.prog 90 cPassT := by
  refine cPassT_law ?_
  intro p t hw hp
  unfold cPassT_0
  obtain ⟨p1, p2⟩ := hp
  obtain ⟨q1, q2, q3⟩ := isTst_iff.1 p2
  exact ⟨⟨p1, q1, q2.1, q2.2⟩, rfl, trivial⟩
theorem errT_cases (p : List Lin) (l : List Tst) : errT [p] l = if validP p = 0 then validT l else validP p := by
  unfold errT firstErr firstErr
  by_cases e : validP p = 0
  · rw [if_pos e, if_pos rfl, if_pos e]
  · rw [if_neg e, if_neg e]
theorem errT2_cases (p q : List Lin) (l : List Tst) : errT [p, q] l = if validP p = 0 then errT [q] l else validP p := by
  rw [errT_cases]
  unfold errT firstErr firstErr firstErr
  by_cases e : validP p = 0
  · rw [if_pos e, if_pos e]
    by_cases e2 : validP q = 0
    · rw [if_pos e2, if_pos rfl, if_pos e2]
    · rw [if_neg e2, if_neg e2]
  · rw [if_neg e, if_neg e, if_neg e]

abbrev cPasses : Con := { A := (.cons (.sl tL) (.cons tTs .nil)), R := (.cons .bool (.cons .int .nil)), pre := fun x => True, F := fun x => ((errT [x.1] [x.2.1] == 0 && passT x.1 x.2.1), errT [x.1] [x.2.1], ()) }
def cPasses_0  (p : (List Lin)) (t : Tst) (y0 : Bool) (y1 : Int) : Prop :=
  True ∧ (if ((errT [p] [t]) != (0 : Int)) = true then (false = y0 ∧ (errT [p] [t]) = y1 ∧ True) else ((validP p = 0 ∧ isTst t = true) ∧ ((passT p t) = y0 ∧ (0 : Int) = y1 ∧ True)))
theorem cPasses_law (h : ∀ (p : (List Lin)) (t : Tst), cPasses.A.wf (p, t, ()) → cPasses_0  p t (errT [p] [t] == 0 && passT p t) (errT [p] [t])) : ConOK Go.Proofs.Try.prog 52 cPasses := by
  refine lawL (Γ := [(90, cPassT), (89, cTested)]) (Θ := Th) (n := 18) [] ⟨cPassT_ok, cTested_ok, trivial⟩ (by kernel_rfl) th_ok mix_ok Go.Proofs.Try.func52 (by kernel_rfl) ?_
  intro x hw hp Λ hC
  have h0 := h x.1 x.2.1 hw  
  exact Eq.mpr (by kernel_rfl) h0
theorem cPasses_ok : ConOK Go.Proofs.Try.prog 52 cPasses := by
  refine cPasses_law ?_
  intro p t hw
  unfold cPasses_0
  refine ⟨trivial, ?_⟩
  by_cases h : errT [p] [t] = 0
  · rw [if_neg (by simp [h])]
    obtain ⟨h1, h2⟩ := errT_ok h
    exact ⟨⟨h1, (validT_ok h2).2 t (by simp)⟩, by simp [h], h.symm, trivial⟩
  · rw [if_pos (by simpa using h)]
    exact ⟨by simp [h], rfl, trivial⟩
abbrev cIsTestR : Con := { A := (.cons tTs .nil), R := (.cons .bool .nil), pre := fun x => True, F := fun x => (isTst x.1, ()) }
def cIsTestR_0  (t : Tst) (y0 : Bool) : Prop :=
  True ∧ (if ((argErr (validS t.1)) == (0 : Int)) = true then (True ∧ (True ∧ (if (bif true then (within t.2.1 (0 : Int) (3 : Int)) else false) = true then (True ∧ (True ∧ ((bif true then (within t.2.2.1 (-999 : Int) (999 : Int)) else false) = y0 ∧ True))) else (false = false ∧ (false = y0 ∧ True))))) else (false = false ∧ (false = false ∧ (false = y0 ∧ True))))
theorem cIsTestR_law (h : ∀ (t : Tst), cIsTestR.A.wf (t, ()) → cIsTestR_0  t (isTst t)) : ConOK Go.Proofs.Try.prog 121 cIsTestR := by
  refine lawL (Γ := [(129, cValSR), (130, cWithinR2)]) (Θ := Th) (n := 17) [] ⟨cValSR_ok, cWithinR2_ok, trivial⟩ (by kernel_rfl) th_ok mix_ok Go.Proofs.Try.func121 (by kernel_rfl) ?_
  intro x hw hp Λ hC
  have h0 := h x.1 hw  
  exact Eq.mpr (by kernel_rfl) h0
theorem cIsTestR_ok : ConOK Go.Proofs.Try.prog 121 cIsTestR := by
  refine cIsTestR_law ?_
  intro t hw
  unfold cIsTestR_0
  unfold isTst isReg isVal
  cases h : validS t.1
  · simp [argErr]
  · cases h1 : within t.2.1 0 3 <;> simp [argErr, h1]
abbrev cValTR : Con := { A := (.cons (.sl tTs) .nil), R := (.cons .int .nil), pre := fun x => True, F := fun x => (validT x.1, ()) }
def cValTR_0 (Λ1 : Int → Prop) (l : (List Tst)) (y0 : Int) : Prop :=
  if (decide ((List.length l : Int) > (8 : Int))) = true then ((3 : Int) = y0 ∧ True) else Λ1 (0 : Int)
def cValTR_1 (Λ1 : Int → Prop) (l : (List Tst)) (y0 : Int)  (i_1 : Int) : Prop :=
  if (decide (i_1 < (List.length l : Int))) = true then (idx i_1 (List.length l : Int) ∧ (True ∧ (if (!(isTst (List.getD l (Int.toNat i_1) tTs.dflt))) = true then ((1 : Int) = y0 ∧ True) else (inI (i_1 + (1 : Int)) ∧ Λ1 (i_1 + (1 : Int)))))) else ((0 : Int) = y0 ∧ True)
theorem cValTR_law (h : ∀ (l : (List Tst)), cValTR.A.wf (l, ()) → ∀ (Λ1 : Int → Prop), (∀ (i_1 : Int), cValTR_1 Λ1 l (validT l) i_1 → Λ1 i_1) → cValTR_0 Λ1 l (validT l)) : ConOK Go.Proofs.Try.prog 106 cValTR := by
  refine lawL (Γ := [(121, cIsTestR)]) (Θ := Th) (n := 19) [([1, 1, 0, 1, 0], ⟨[(0, false), (3, true)], []⟩)] ⟨cIsTestR_ok, trivial⟩ (by kernel_rfl) th_ok mix_ok Go.Proofs.Try.func106 (by kernel_rfl) ?_
  intro x hw hp Λ hC
  have h0 := h x.1 hw (fun i_1 => Λ [1, 1, 0, 1, 0] ([(0, .d false (.sl tTs) x.1), (3, .d true .int i_1)], [])) (fun i_1 hb => hC [1, 1, 0, 1, 0] ([(0, .d false (.sl tTs) x.1), (3, .d true .int i_1)], []) (Eq.mpr (by kernel_rfl) hb))
  exact Eq.mpr (by kernel_rfl) h0
theorem cValTR_ok : ConOK Go.Proofs.Try.prog 106 cValTR := by
  refine cValTR_law ?_
  intro l hw Λ1 h1
  unfold cValTR_0
  unfold validT
  simp only [decide_eq_true_eq]
  by_cases h : l.length > 8
  · rw [if_pos (by omega), if_pos h]; exact ⟨rfl, trivial⟩
  · rw [if_neg (by omega)]
    refine upto (n := l.length) (Q := fun i => (l.take i).all isTst = true → Λ1 i) ?_ ?_ 0 (Nat.zero_le _) rfl
    · intro ha
      rw [List.take_length] at ha
      apply h1; unfold cValTR_1; rw [if_neg (by simp)]
      unfold validT
      rw [if_neg h, ha]
      exact ⟨rfl, trivial⟩
    · intro i hi ih ha
      apply h1; unfold cValTR_1; rw [if_pos (by simpa using hi), Int.toNat_natCast]
      refine ⟨idx_nat hi, trivial, ?_⟩
      cases hv : isTst (List.getD l i tTs.dflt)
      · rw [if_pos (by rfl)]
        unfold validT
        rw [if_neg h, all_false_at (p := isTst) tTs.dflt hi hv]
        exact ⟨rfl, trivial⟩
      · rw [if_neg (by simp)]
        exact ⟨inI_succ hi (by omega), ih (all_take_next tTs.dflt hi ha hv)⟩
abbrev cTestedR : Con := { A := (.cons (.sl tL) (.cons (.sl tTs) .nil)), R := (.cons .int .nil), pre := fun x => True, F := fun x => (errT [x.1] x.2.1, ()) }
def cTestedR_0  (p : (List Lin)) (l : (List Tst)) (y0 : Int) : Prop :=
  True ∧ (if ((validP p) != (0 : Int)) = true then ((validP p) = y0 ∧ True) else (True ∧ ((validT l) = y0 ∧ True)))
theorem cTestedR_law (h : ∀ (p : (List Lin)) (l : (List Tst)), cTestedR.A.wf (p, l, ()) → cTestedR_0  p l (errT [p] l)) : ConOK Go.Proofs.Try.prog 131 cTestedR := by
  refine lawL (Γ := [(77, cValPR), (106, cValTR)]) (Θ := Th) (n := 13) [] ⟨cValPR_ok, cValTR_ok, trivial⟩ (by kernel_rfl) th_ok mix_ok Go.Proofs.Try.func131 (by kernel_rfl) ?_
  intro x hw hp Λ hC
  have h0 := h x.1 x.2.1 hw  
  exact Eq.mpr (by kernel_rfl) h0
theorem cTestedR_ok : ConOK Go.Proofs.Try.prog 131 cTestedR := by
  refine cTestedR_law ?_
  intro p l hw
  unfold cTestedR_0
  rw [errT_cases]
  refine ⟨trivial, ?_⟩
  by_cases e : validP p = 0
  · rw [if_neg (by simp [e]), if_pos e]; exact ⟨trivial, rfl, trivial⟩
  · rw [if_pos (by simpa using e), if_neg e]; exact ⟨rfl, trivial⟩
abbrev cMade : Con := { A := (.cons (.sl tL) (.cons (.sl .int) (.cons .int .nil))), R := (.cons .int .nil), pre := fun x => validP x.1 = 0 ∧ validS x.2.1 = true ∧ 0 ≤ x.2.2.1 ∧ x.2.2.1 ≤ 3, F := fun x => (Rg (runS x.1 x.2.1) x.2.2.1, ()) }
def cMade_0  (p : (List Lin)) (in_ : (List Int)) (out : Int) (y0 : Int) : Prop :=
  True ∧ (idx out (List.length ((if err1 p in_ = 0 then runS p in_ else [])) : Int) ∧ ((List.getD ((if err1 p in_ = 0 then runS p in_ else [])) (Int.toNat out) 0) = y0 ∧ True))
theorem cMade_law (h : ∀ (p : (List Lin)) (in_ : (List Int)) (out : Int), cMade.A.wf (p, in_, out, ()) → (validP p = 0 ∧ validS in_ = true ∧ 0 ≤ out ∧ out ≤ 3) → cMade_0  p in_ out (Rg (runS p in_) out)) : ConOK Go.Proofs.Try.prog 132 cMade := by
  refine lawL (Γ := [(140, cRunR)]) (Θ := Th) (n := 19) [] ⟨cRunR_ok, trivial⟩ (by kernel_rfl) th_ok mix_ok Go.Proofs.Try.func132 (by kernel_rfl) ?_
  intro x hw hp Λ hC
  have h0 := h x.1 x.2.1 x.2.2.1 hw hp  
  exact Eq.mpr (by kernel_rfl) h0
theorem cMade_ok : ConOK Go.Proofs.Try.prog 132 cMade := by
  refine cMade_law ?_
  intro p in_ out hw hp
  unfold cMade_0
  obtain ⟨p1, p2, p3, p4⟩ := hp
  have e : err1 p in_ = 0 := by unfold err1; rw [if_pos p1, p2]; rfl
  have l4 := validS_len (runS_ok (p := p) p2)
  rw [if_pos e]
  exact ⟨trivial, ⟨p3, by omega⟩, rfl, trivial⟩
abbrev cPassesR : Con := { A := (.cons (.sl tL) (.cons tTs .nil)), R := (.cons .bool (.cons .int .nil)), pre := fun x => True, F := fun x => ((errT [x.1] [x.2.1] == 0 && passT x.1 x.2.1), errT [x.1] [x.2.1], ()) }
def cPassesR_0  (p : (List Lin)) (t : Tst) (y0 : Bool) (y1 : Int) : Prop :=
  True ∧ (if ((errT [p] [t]) != (0 : Int)) = true then (false = y0 ∧ (errT [p] [t]) = y1 ∧ True) else ((validP p = 0 ∧ validS t.1 = true ∧ 0 ≤ t.2.1 ∧ t.2.1 ≤ 3) ∧ (((Rg (runS p t.1) t.2.1) == t.2.2.1) = y0 ∧ (0 : Int) = y1 ∧ True)))
theorem cPassesR_law (h : ∀ (p : (List Lin)) (t : Tst), cPassesR.A.wf (p, t, ()) → cPassesR_0  p t (errT [p] [t] == 0 && passT p t) (errT [p] [t])) : ConOK Go.Proofs.Try.prog 122 cPassesR := by
  refine lawL (Γ := [(132, cMade), (131, cTestedR)]) (Θ := Th) (n := 23) [] ⟨cMade_ok, cTestedR_ok, trivial⟩ (by kernel_rfl) th_ok mix_ok Go.Proofs.Try.func122 (by kernel_rfl) ?_
  intro x hw hp Λ hC
  have h0 := h x.1 x.2.1 hw  
  exact Eq.mpr (by kernel_rfl) h0
theorem cPassesR_ok : ConOK Go.Proofs.Try.prog 122 cPassesR := by
  refine cPassesR_law ?_
  intro p t hw
  unfold cPassesR_0
  refine ⟨trivial, ?_⟩
  by_cases h : errT [p] [t] = 0
  · rw [if_neg (by simp [h])]
    obtain ⟨h1, h2⟩ := errT_ok h
    obtain ⟨q1, q2, q3⟩ := isTst_iff.1 ((validT_ok h2).2 t (by simp))
    exact ⟨⟨h1, q1, q2.1, q2.2⟩, by simp [h, passT, endT], h.symm, trivial⟩
  · rw [if_pos (by simpa using h)]
    exact ⟨by simp [h], rfl, trivial⟩
end Go.Tk
/- patch.Then. -/
set_option linter.unusedSimpArgs false
set_option linter.unusedVariables false
set_option linter.unnecessarySimpa false
set_option maxRecDepth 10000
set_option maxHeartbeats 400000
namespace Go.Tk
open Go Go.RowKit
abbrev cOr4 : Con := { A := (.cons (.sl .int) .nil), R := (.cons .int .nil), pre := fun x => x.1.length ≤ 100, F := fun x => ((x.1.find? fun e' => !(e' == 0)).getD 0, ()) }
def cOr4_0 (Λ1 : Int → Prop) (vals : (List Int)) (y0 : Int) : Prop :=
  Λ1 (0 : Int)
def cOr4_1 (Λ1 : Int → Prop) (vals : (List Int)) (y0 : Int)  (t8_1 : Int) : Prop :=
  if (decide (t8_1 < (List.length vals : Int))) = true then (idx t8_1 (List.length vals : Int) ∧ (if ((List.getD vals (Int.toNat t8_1) 0) != (0 : Int)) = true then ((List.getD vals (Int.toNat t8_1) 0) = y0 ∧ True) else (inI (t8_1 + (1 : Int)) ∧ Λ1 (t8_1 + (1 : Int))))) else ((0 : Int) = y0 ∧ True)
theorem cOr4_law (h : ∀ (vals : (List Int)), cOr4.A.wf (vals, ()) → (vals.length ≤ 100) → ∀ (Λ1 : Int → Prop), (∀ (t8_1 : Int), cOr4_1 Λ1 vals ((vals.find? fun e' => !(e' == 0)).getD 0) t8_1 → Λ1 t8_1) → cOr4_0 Λ1 vals ((vals.find? fun e' => !(e' == 0)).getD 0)) : ConOK Go.Proofs.Try.prog 109 cOr4 := by
  refine lawL (Γ := []) (Θ := Th) (n := 18) [([1, 1, 0, 1, 0], ⟨[(3, true), (6, false), (7, true), (8, true)], []⟩)] trivial (by kernel_rfl) th_ok mix_ok Go.Proofs.Try.func109 (by kernel_rfl) ?_
  intro x hw hp Λ hC
  have h0 := h x.1 hw hp (fun t8_1 => Λ [1, 1, 0, 1, 0] ([(3, .d true .int 0), (6, .d false (.sl .int) x.1), (7, .d true .int (List.length x.1 : Int)), (8, .d true .int t8_1)], [])) (fun t8_1 hb => hC [1, 1, 0, 1, 0] ([(3, .d true .int 0), (6, .d false (.sl .int) x.1), (7, .d true .int (List.length x.1 : Int)), (8, .d true .int t8_1)], []) (Eq.mpr (by kernel_rfl) hb))
  exact Eq.mpr (by kernel_rfl) h0
theorem cOr4_ok : ConOK Go.Proofs.Try.prog 109 cOr4 := by
  refine cOr4_law ?_
  intro vals hw hp Λ1 h1
  unfold cOr4_0
  refine upto (n := vals.length) (Q := fun i => (vals.take i).any (fun e => !(e == 0)) = false → Λ1 (i : Int)) ?_ ?_ 0 (Nat.zero_le _) rfl
  · intro ha
    rw [List.take_length] at ha
    apply h1; unfold cOr4_1
    rw [if_neg (by simp)]
    refine ⟨?_, trivial⟩
    have : vals.find? (fun e => !(e == 0)) = none := by
      rw [List.find?_eq_none]
      intro x hx
      exact Bool.eq_false_iff.1 (List.any_eq_false.1 ha x hx |> fun h => Bool.eq_false_iff.2 h)
    rw [this]; rfl
  · intro i hi ih ha
    apply h1; unfold cOr4_1
    rw [if_pos (by simpa using hi), Int.toNat_natCast]
    refine ⟨idx_nat hi, ?_⟩
    cases hv : (!(List.getD vals i 0 == 0))
    · rw [if_neg (by simpa using hv)]
      exact ⟨by unfold inI; omega, ih (any_take_next (p := fun e => !(e == 0)) 0 hi ha hv)⟩
    · rw [if_pos (by simpa using hv)]
      refine ⟨?_, trivial⟩
      have : vals.find? (fun e => !(e == 0)) = some (vals.getD i 0) := by
        rw [List.find?_eq_some_iff_getElem]
        refine ⟨hv, i, hi, ?_, fun j hj => ?_⟩
        · rw [List.getD_eq_getElem?_getD, List.getElem?_eq_getElem hi]; rfl
        · have := List.any_eq_false.1 ha vals[j] (List.mem_take_iff_getElem.2 ⟨j, by omega, rfl⟩)
          simpa using this
      rw [this]; rfl
theorem lim_in (E : List (Int × Lin)) : inI (limN E) := by unfold limN inI; split <;> omega
/-- An own slice and an error. -/
theorem ownE_post {w W : World} {xs : List Edt} {n : Int} {v : Value} (h : ownRes w xs v W) (hi : inI n) (hb : Below w.heap.size w W) :
    ∃ rs, Ending.returned (.tuple #[v, .int .i64 n]) = .returned (mkRes rs) ∧ ∃ bs, (reps Go.Proofs.Try.prog (.cons (.osl tEd) (.cons .int .nil))).v W (fun b => w.heap.size ≤ b ∧ ¬ b ∈ bs) (xs, n, ()) rs bs ∧ bs.Nodup ∧ (∀ b ∈ bs, w.heap.size ≤ b) ∧ Below w.heap.size w W := by
  obtain ⟨ob, hown, hob⟩ := h
  refine ⟨[v, .int .i64 n], rfl, (ob.map (·.1)).toList, ⟨v, [.int .i64 n], (ob.map (·.1)).toList, [], rfl, (List.append_nil _).symm, ⟨ob, ?_, rfl⟩, .int .i64 n, [], [], [], rfl, rfl, ⟨rfl, [.int .i64 n], rfl, rfl, hi⟩, rfl, rfl⟩, by cases ob <;> simp, hob, hb⟩
  rcases hown with h | ⟨b, off, cap, cur, e, g1, g2, g3, g4, g5, g6, g7, g8⟩
  · exact .inl h
  · exact .inr ⟨b, off, cap, cur, e, g1, g2, g3, g4, g5, g6, g7, repL_mono (fun _ _ h => c_mono _ h fun _ _ h => h) _ _ g8⟩
theorem own_slice {w W : World} {xs : List Edt} {v : Value} (h : ownRes w xs v W) : ∃ ao n c, v = .slice ao n c := by
  obtain ⟨ob, h | ⟨g, off, cap, cur, e, _, h, _⟩, _⟩ := h
  · exact ⟨_, _, _, h.1⟩
  · exact ⟨_, _, _, h⟩
theorem ownRes_base {w w1 W : World} {xs : List Edt} {v : Value} (h : ownRes w1 xs v W) (hs : w.heap.size ≤ w1.heap.size) : ownRes w xs v W := by
  obtain ⟨ob, hown, hob⟩ := h
  refine ⟨ob, ?_, fun b hb => Nat.le_trans hs (hob b hb)⟩
  rcases hown with h | ⟨b, off, cap, cur, e, g1, g2, g3, g4, g5, g6, g7, g8⟩
  · exact .inl h
  · exact .inr ⟨b, off, cap, cur, e, g1, g2, g3, g4, g5, g6, g7, repL_mono (fun _ _ h => c_mono _ h fun _ _ h => ⟨Nat.le_trans hs h.1, h.2⟩) _ _ g8⟩
def thenE (x y : List Edt) : List (Int × Lin) := mergeE (readE x) (readE y)
end Go.Tk
/- patch.Merge. -/
set_option linter.unusedSimpArgs false
set_option linter.unusedVariables false
set_option linter.unnecessarySimpa false
set_option maxRecDepth 10000
set_option maxHeartbeats 400000
namespace Go.Tk
open Go Go.RowKit
def clashE (E : List (Int × Lin)) (e : Edt) : Bool := match lookE E e.1 with | some l => !(decide (l = e.2.1)) | none => false
def mergeN (x y : List Edt) : Int := if bothX x y = 0 then if y.any (clashE (readE x)) then 5 else limN (thenE x y) else bothX x y
def mergeX (x y : List Edt) : List Edt := if bothX x y = 0 then if y.any (clashE (readE x)) then [] else limE (thenE x y) else []
/-! ### Regions with guards, by hand -/
def qlg (P : Program) (ops : Array Oper) : List Oper → (Act → World → Prop) → (Exit → Act → World → Prop) → Act → World → Prop
  | [], K, _, a, w => K a w
  | o :: l, K, Q, a, w => if Region.wanted o (yielded ops a.tmps) = true then o.upon P a (fun a' w' => qlg P ops l K Q a' w') Q ((execOp a.eval o).run P w) else qlg P ops l K Q (a.put o.dst undef) w
theorem qlg_ops {P : Program} {ops : Array Oper} {Q : Exit → Act → World → Prop} : ∀ (l : List Oper) (k : Nat) (a : Act) (w : World), (∀ j, l[j]? = ops[k + j]?) → qlg P ops l (Q .normal) Q a w →
    wpOpsIn (Fw none) 0 P ops Q (List.range' k l.length) a w
  | [], k, a, w, _, h => by
    have h : Q .normal a w := h
    simpa [wpOpsIn] using h
  | o :: l, k, a, w, hl, h => by
    rw [List.length_cons, List.range'_succ, wpOpsIn_cons]
    have ho : ops[k]? = some o := by simpa using (hl 0).symm
    have hl' : ∀ j, l[j]? = ops[k + 1 + j]? := fun j => by have := hl (j + 1); simpa [Nat.add_assoc, Nat.add_comm 1 j] using this
    unfold wpOpIn
    rw [ho]
    simp only [qlg] at h
    split at h
    · rename_i hw
      simp only [hw, if_true]
      refine ⟨fun _ _ => trivial, ?_⟩
      show Oper.uponIn (Fw none) 0 P o a _ Q ((o.semAt none a.eval).run P w)
      rw [Oper.semAt_none]
      exact upon_in (ql_mono (fun a' w' h' => qlg_ops l (k + 1) a' w' hl' h') h)
    · rename_i hw
      simp only [hw]
      exact ⟨fun _ _ => trivial, qlg_ops l (k + 1) _ w hl' h⟩
theorem qlg_region {P : Program} {ops : Array Oper} {id : Nat} {Q : Exit → Act → World → Prop} {a : Act} {w : World} (h : qlg P ops ops.toList (Q .normal) Q a w) : (Code.region id ops false).wpIn (Fw none) 0 P Q a w := by
  refine wpIn_region ?_
  have := qlg_ops (P := P) (ops := ops) (Q := Q) ops.toList 0 a w (by simp) h
  simpa [List.range_eq_range'] using this
theorem eq_ln (l m : Lin) (hl : inL l) (hm : inL m) (W : World) : (Op.equal 46 (.agg #[.int .i64 l.1, .int .i64 l.2.1, .int .i64 l.2.2.1, .int .i64 l.2.2.2.1]) (.agg #[.int .i64 m.1, .int .i64 m.2.1, .int .i64 m.2.2.1, .int .i64 m.2.2.2.1])).run Go.Proofs.Try.prog W = Result.ok (decide (l = m)) W := by
  have h := eq_run (P := Go.Proofs.Try.prog) (w := W) (S := fun _ => True) (S' := fun _ => True) tL 10000 46 l m _ _ rfl (by decide) ((tyB_ok Go.Proofs.Try.prog tL).1 46 (by kernel_rfl)) (ln_rep (W := W) hl) (ln_rep (W := W) hm)
  have e : tL.eqB l m = decide (l = m) := by
    rw [Bool.eq_iff_iff, eqB_iff rfl, decide_eq_true_eq]
  rw [e] at h
  exact h
end Go.Tk
/- patch.Diff. -/
set_option linter.unusedSimpArgs false
set_option linter.unusedVariables false
set_option linter.unnecessarySimpa false
set_option maxRecDepth 10000
set_option maxHeartbeats 400000
namespace Go.Tk
open Go Go.RowKit
def diffE (p q : List Lin) (n : Nat) : List (Int × Lin) := ((List.range n).filter fun i => !(decide (p.getD i tL.dflt = q.getD i tL.dflt))).map fun (i : Nat) => ((i : Int), q.getD i tL.dflt)
theorem diffE_succ (p q : List Lin) (n : Nat) : diffE p q (n + 1) = if p.getD n tL.dflt = q.getD n tL.dflt then diffE p q n else diffE p q n ++ [((n : Int), q.getD n tL.dflt)] := by
  unfold diffE
  rw [List.range_succ, List.filter_append, List.map_append]
  by_cases h : p.getD n tL.dflt = q.getD n tL.dflt
  · rw [if_pos h, List.filter_cons_of_neg (by rw [decide_eq_true h]; decide), List.filter_nil, List.map_nil, List.append_nil]
  · rw [if_neg h, List.filter_cons_of_pos (by rw [decide_eq_false h]; rfl), List.filter_nil]; rfl
theorem diffE_lt {p q : List Lin} {n : Nat} : ∀ e ∈ diffE p q n, e.1 < (n : Int) := by
  intro e he
  unfold diffE at he
  obtain ⟨i, hi, rfl⟩ := List.mem_map.1 he
  have := List.mem_range.1 (List.mem_filter.1 hi).1
  show (i : Int) < n
  omega
theorem diffE_put {p q : List Lin} {n : Nat} (h : ¬ p.getD n tL.dflt = q.getD n tL.dflt) : putE (diffE p q n) (n : Int) (q.getD n tL.dflt) = diffE p q (n + 1) := by
  rw [diffE_succ, if_neg h]
  exact putE_end fun e he => diffE_lt e he
theorem diffE_len (p q : List Lin) (n : Nat) : (diffE p q n).length ≤ n := by
  unfold diffE
  rw [List.length_map]
  exact Nat.le_trans (List.length_filter_le _ _) (by simp)
theorem heap_self (w : World) (o : Obj) : (w.alloc o).heap[w.heap.size]? = some o := by show (w.heap.push o)[w.heap.size]? = some o; simp
theorem arr46 (x : Array Value) (h : x.size = 46) : ∃ x0 x1 x2 x3 x4 x5 x6 x7 x8 x9 x10 x11 x12 x13 x14 x15 x16 x17 x18 x19 x20 x21 x22 x23 x24 x25 x26 x27 x28 x29 x30 x31 x32 x33 x34 x35 x36 x37 x38 x39 x40 x41 x42 x43 x44 x45 : Value, x = #[x0, x1, x2, x3, x4, x5, x6, x7, x8, x9, x10, x11, x12, x13, x14, x15, x16, x17, x18, x19, x20, x21, x22, x23, x24, x25, x26, x27, x28, x29, x30, x31, x32, x33, x34, x35, x36, x37, x38, x39, x40, x41, x42, x43, x44, x45] := by
  obtain ⟨l⟩ := x
  match l, h with
  | x0 :: x1 :: x2 :: x3 :: x4 :: x5 :: x6 :: x7 :: x8 :: x9 :: x10 :: x11 :: x12 :: x13 :: x14 :: x15 :: x16 :: x17 :: x18 :: x19 :: x20 :: x21 :: x22 :: x23 :: x24 :: x25 :: x26 :: x27 :: x28 :: x29 :: x30 :: x31 :: x32 :: x33 :: x34 :: x35 :: x36 :: x37 :: x38 :: x39 :: x40 :: x41 :: x42 :: x43 :: x44 :: x45 :: [], _ => exact ⟨_, _, _, _, _, _, _, _, _, _, _, _, _, _, _, _, _, _, _, _, _, _, _, _, _, _, _, _, _, _, _, _, _, _, _, _, _, _, _, _, _, _, _, _, _, _, rfl⟩
def kvL (L : List (Nat × Value)) : Nat → Option Value := fun t => lk L t
theorem kvL_no {L : List (Nat × Value)} {t : Nat} (h : t ∉ L.map (·.1)) : kvL L t = none := by
  cases e : lk L t with
  | none => exact e
  | some v => exact absurd (lk_key e) h
theorem lk_in {α : Type _} : ∀ {E : List (Nat × α)} {t : Nat} {U : α}, lk E t = some U → (t, U) ∈ E
  | [], _, _, h => by cases h
  | (k, v) :: E, t, U, h => by
    simp only [lk] at h
    split at h
    · rename_i e
      have : k = t := Nat.eq_of_beq_eq_true e
      cases h
      simp [this]
    · simp [lk_in h]
theorem ln_cs {w : World} {S : Nat → Prop} {l : Lin} {cs : List Value} (h : (reps Go.Proofs.Try.prog tL).c w S l cs) : cs = [.int .i64 l.1, .int .i64 l.2.1, .int .i64 l.2.2.1, .int .i64 l.2.2.2.1] ∧ inL l := by
  obtain ⟨d1, d2, rfl, ⟨rfl, h2⟩, d3, d4, rfl, ⟨rfl, h3⟩, d5, d6, rfl, ⟨rfl, h4⟩, d7, d8, rfl, ⟨rfl, h5⟩, h6⟩ := h
  have e8 : d8 = [] := h6
  subst e8
  exact ⟨rfl, h2, h3, h4, h5⟩
theorem ln_load {w : World} {S : Nat → Prop} {x : List Lin} {xv : Value} (h : (reps Go.Proofs.Try.prog tP).c w S x [xv]) : ∃ ao cap, xv = .slice ao x.length cap ∧ x.length ≤ 140737488355328 ∧ (∀ e ∈ x, inL e) ∧ (x ≠ [] → ∃ b off, ao = some ⟨b, off, none⟩ ∧ b < w.heap.size ∧ (∀ i : Nat, i < x.length → ∀ W : World,
    (Instr.indexAt 22 xv (.int .i64 i)).run Go.Proofs.Try.prog W = .ok (.pointer (some ⟨b, off + i * 4, none⟩)) W) ∧ (∀ i : Nat, i < x.length → ∀ W : World, W.heap[b]? = w.heap[b]? → ∃ e, e = x.getD i tL.dflt ∧
    W.cell? ⟨b, off + i * 4, none⟩ = some (.int .i64 e.1) ∧ W.cell? ⟨b, off + i * 4 + 1, none⟩ = some (.int .i64 e.2.1) ∧ W.cell? ⟨b, off + i * 4 + 2, none⟩ = some (.int .i64 e.2.2.1) ∧ W.cell? ⟨b, off + i * 4 + 3, none⟩ = some (.int .i64 e.2.2.2.1))) := by
  obtain ⟨v, e, ao, cap, rfl, h1, h2, h3⟩ := h
  cases e
  have h3 : x = [] ∨ ∃ b off cs, ao = some ⟨b, off, none⟩ ∧ S b ∧ b < w.heap.size ∧ cellsAt w b off cs ∧ repL ((reps Go.Proofs.Try.prog tL).c w S) x cs := h3
  have hn : ∀ (e : Lin) cs, (reps Go.Proofs.Try.prog tL).c w S e cs → cs.length = 4 := fun e cs h => by rw [(ln_cs h).1]; rfl
  refine ⟨ao, cap, rfl, h2, fun e he => ?_, fun hne => ?_⟩
  · rcases h3 with rfl | ⟨b, off, cs, _, _, _, _, h4⟩
    · cases he
    · obtain ⟨i, hi, ei⟩ := List.mem_iff_getElem.1 he
      have := (ln_cs (repL_nth tL.dflt hn x cs i h4 hi)).2
      rw [List.getD_eq_getElem?_getD, List.getElem?_eq_getElem hi] at this
      rw [← ei]; exact this
  · rcases h3 with rfl | ⟨b, off, cs, rfl, _, hb, hc, h4⟩
    · exact absurd rfl hne
    · refine ⟨b, off, rfl, hb, fun i hi W => ?_, fun i hi W hW => ⟨_, rfl, ?_⟩⟩
      · have hty : (tys Go.Proofs.Try.prog tP).ty 22 := (tyB_ok Go.Proofs.Try.prog tP).1 22 (by kernel_rfl)
        obtain ⟨e, t1, t2⟩ := ty_sl hty
        have := run_index_sl (w := W) t1 t2 (b := b) (off := off) (len := x.length) (cap := cap) (n := (i : Int)) (by omega) (by omega)
        rw [Int.toNat_natCast] at this
        exact this
      · have h5 := (ln_cs (repL_nth tL.dflt hn x cs i h4 hi)).1
        have key : ∀ j v, j < 4 → ((cs.drop (i * 4)).take 4)[j]? = some v → W.cell? ⟨b, off + i * 4 + j, none⟩ = some v := by
          intro j v hj e
          rw [List.getElem?_take, if_pos hj, List.getElem?_drop] at e
          have := hc _ _ e
          rw [cell_same hW, Nat.add_assoc]
          exact this
        exact ⟨key 0 _ (by omega) (by rw [h5]; rfl), key 1 _ (by omega) (by rw [h5]; rfl), key 2 _ (by omega) (by rw [h5]; rfl), key 3 _ (by omega) (by rw [h5]; rfl)⟩
/-- An island of the engine: what is known of some temporaries. -/
theorem rel_isl {w : World} {n : Nat} {kv : Nat → Option Value} {E : List (Nat × V)} {a : Act} (hsz : a.tmps.size = n) (hd : a.defers = []) (hkp : ∀ t v, kv t = some v → a.tmps.getD t undef = v)
    (hE : ∀ t U, lk E t = some U → ∀ G, (∀ b, dS (hB w.heap.size (fun _ => True) kv (fun _ => False) fun b => w.heap[b]?) G (mkLoc []) false b) → ERep Go.Proofs.Try.prog (hB w.heap.size (fun _ => True) kv (fun _ => False) fun b => w.heap[b]?) G (mkLoc []) w U (a.tmps.getD t undef)) :
    Rel Go.Proofs.Try.prog (hB w.heap.size (fun _ => True) kv (fun _ => False) fun b => w.heap[b]?) w n (mkSt (E, [])) a w :=
  rel_env (rel_zero hsz hd hkp (fun _ h => h.elim)) hsz hd hkp (fun t U h => .inr fun G hm => hE t U h G fun b => ⟨⟨fun e => (by cases e), .inr trivial⟩, fun k g l hk => (by cases hk), fun h => h⟩)
def errPQ (p q : List Lin) : Int := if validP p = 0 then validP q else validP p
theorem or_pq (p q : List Lin) : (([validP p, validP q].find? fun e' => !(e' == 0)).getD 0) = errPQ p q := by
  unfold errPQ
  by_cases h : validP p = 0
  · rw [if_pos h]
    by_cases h2 : validP q = 0
    · simp [h, h2]
    · simp [h, h2]
  · rw [if_neg h]; simp [h]
def diffN (p q : List Lin) : Int := if errPQ p q = 0 then if p.length = q.length then limN (diffE p q q.length) else 9 else errPQ p q
def diffX (p q : List Lin) : List Edt := if errPQ p q = 0 then if p.length = q.length then limE (diffE p q q.length) else [] else []
theorem valP_call {w : World} {S : Nat → Prop} {p : List Lin} {pv : Value} (hx : (reps Go.Proofs.Try.prog tP).c w S p [pv]) :
    Calls Go.Proofs.Try.prog 73 #[pv] w fun e w' => e = .returned (.int .i64 (validP p)) ∧ inI (validP p) ∧ Below w.heap.size w w' := by
  refine ((cValP_ok.1 rfl) w S (p, ()) [pv] ⟨pv, [], [], [], rfl, rfl, ⟨rfl, [pv], rfl, hx⟩, rfl, rfl⟩ trivial).mono ?_
  rintro e w' ⟨rs, bs, rfl, ⟨u, us, _, _, rfl, _, ⟨_, cs, rfl, rfl, hi⟩, rfl, _⟩, _, _, hb⟩
  exact ⟨rfl, hi, hb⟩
theorem or_call {w : World} {a b : Int} (ha : inI a) (hb : inI b) {bk : Nat} {ty : TypeId} (h : w.heap[bk]? = some (.cells #[.int .i64 a, .int .i64 b] ty)) :
    Calls Go.Proofs.Try.prog 109 #[.slice (some ⟨bk, 0, none⟩) 2 2] w fun e w' => e = .returned (.int .i64 (([a, b].find? fun e' => !(e' == 0)).getD 0)) ∧ inI (([a, b].find? fun e' => !(e' == 0)).getD 0) ∧ Below w.heap.size w w' := by
  have hx : (reps Go.Proofs.Try.prog (.sl .int)).c w (fun _ => True) [a, b] [.slice (some ⟨bk, 0, none⟩) 2 2] := by
    refine ⟨_, rfl, some ⟨bk, 0, none⟩, 2, rfl, by simp, by simp, .inr ⟨bk, 0, [.int .i64 a, .int .i64 b], rfl, trivial, (Array.getElem?_eq_some_iff.1 h).1, ?_, ?_⟩⟩
    · intro i v hi
      simp only [World.cell?, h]
      match i, hi with
      | 0, hi => cases hi; rfl
      | 1, hi => cases hi; rfl
    · exact ⟨[_], [_], rfl, ⟨rfl, ha⟩, [_], [], rfl, ⟨rfl, hb⟩, rfl⟩
  refine ((cOr4_ok.1 rfl) w (fun _ => True) ([a, b], ()) [_] ⟨_, [], [], [], rfl, rfl, ⟨rfl, [_], rfl, hx⟩, rfl, rfl⟩ (by show [a, b].length ≤ 100; simp)).mono ?_
  rintro e w' ⟨rs, bs, rfl, ⟨u, us, _, _, rfl, _, ⟨_, cs, rfl, rfl, hi⟩, rfl, _⟩, _, _, hb⟩
  exact ⟨rfl, hi, hb⟩
abbrev cDiff4 : Con := { A := (.cons (.sl tL) (.cons (.sl tL) .nil)), R := (.cons (.osl tEd) (.cons .int .nil)), pre := fun x => True, F := fun x => (diffX x.1 x.2.1, diffN x.1 x.2.1, ()) }
theorem cDiff4_ok : ConOK Go.Proofs.Try.prog 91 cDiff4 := by
  refine ConOK.f ?_ rfl
  rintro w S ⟨p, q, ⟨⟩⟩ vs hv _
  change List Lin at p
  change List Lin at q
  obtain ⟨pv, vs1, b1, b2, rfl, e2, ⟨_, pc, ep, hpr⟩, qv, vs2, b3, b4, rfl, e3, ⟨_, qc, eq, hqr⟩, rfl, _⟩ := hv
  have hpr0 := hpr
  have hqr0 := hqr
  obtain ⟨pv', epc, hps⟩ := hpr
  obtain ⟨qv', eqc, hqs⟩ := hqr
  subst epc
  subst eqc
  obtain rfl : pv = pv' := ep
  obtain rfl : qv = qv' := eq
  have hpr : (reps Go.Proofs.Try.prog tP).c w S p [pv] := hpr0
  have hqr : (reps Go.Proofs.Try.prog tP).c w S q [qv] := hqr0
  have keep : ∀ {z : List Lin} {zv : Value} {W : World}, (reps Go.Proofs.Try.prog tP).c w S z [zv] → Below w.heap.size w W → (reps Go.Proofs.Try.prog tP).c W S z [zv] := fun h hb => c_keep tP h ⟨hb.size, fun b hb' _ => hb.block b hb'.lt⟩ fun _ _ h => h
  show Calls _ _ #[pv, qv] w _
  go_enter Go.Proofs.Try.func91, Go.Proofs.Try.ntmps91
  refine (wpIn_wide (n := 0)).1 ?_
  show Code.wpIn (Fw none) 0 _ _ _ _ _
  refine wpIn_seq (ql_region rfl ?_)
  simp [ql, go_sem, Exit.then]
  refine wpIn_seq (wpIn_seq (ql_region rfl ?_))
  simp [ql, go_sem, Exit.then]
  refine (valP_call hpr).mono ?_
  rintro e W1 ⟨rfl, hi1, hb1⟩
  simp [ql, go_sem, Exit.then]
  refine (valP_call (keep hqr hb1)).mono ?_
  rintro e W2 ⟨rfl, hi2, hb2⟩
  simp [ql, go_sem, Exit.then]
  have hb02 := hb1.trans (hb2.mono hb1.size)
  have hb3 := hb02.alloc hb02.size (.cells #[.int .i64 (validP p), .int .i64 (validP q)] 29)
  have hor := or_call hi1 hi2 (heap_self W2 (.cells #[.int .i64 (validP p), .int .i64 (validP q)] 29))
  rw [or_pq] at hor
  refine hor.mono ?_
  rintro e W4 ⟨rfl, hiB, hb4⟩
  have hb04 := hb3.trans (hb4.mono hb3.size)
  simp [ql, go_sem, Exit.then]
  refine wpIn_seq (ql_region rfl ?_)
  simp [ql, go_sem, Exit.then]
  by_cases h0 : errPQ p q = 0
  · refine wpIn_cond_false (by simp [Act.eval, h0]) (wpIn_skip ?_)
    simp only [Exit.then]
    obtain ⟨ap, capp, rfl, hlp⟩ : ∃ ao c, pv = .slice ao p.length c ∧ True := by
      obtain ⟨ao, c, h1, h2, _⟩ := hps
      exact ⟨ao, c, h1, trivial⟩
    obtain ⟨aq, capq, rfl, hlq⟩ : ∃ ao c, qv = .slice ao q.length c ∧ True := by
      obtain ⟨ao, c, h1, h2, _⟩ := hqs
      exact ⟨ao, c, h1, trivial⟩
    refine wpIn_seq (wpIn_seq (ql_region rfl ?_))
    simp [ql, go_sem, Exit.then]
    by_cases hl : p.length = q.length
    · refine wpIn_cond_false (by simp [Act.eval, hl]) (wpIn_skip ?_)
      simp only [Exit.then]
      refine wpIn_seq (ql_region rfl ?_)
      have hmk : ∀ W : World, (Instr.makeMap 114 none).run Go.Proofs.Try.prog W = .ok (.map (some W.heap.size)) (W.alloc (.map #[] 0)) := fun _ => rfl
      simp [ql, go_sem, Exit.then, hmk]
      refine wpIn_seq (wpIn_seq (ql_region rfl ?_))
      simp [ql, go_sem, Exit.then]
      refine wpIn_block (wp_loopAt ?_)
      have hsz4 := hb04.size
      obtain ⟨ap', capp', e1, _, hpin, hpld⟩ := ln_load hpr
      cases e1
      obtain ⟨aq', capq', e1, _, hqin, hqld⟩ := ln_load hqr
      cases e1
      obtain ⟨hvp, hvq⟩ : validP p = 0 ∧ validP q = 0 := by
        unfold errPQ at h0
        by_cases h : validP p = 0
        · rw [if_pos h] at h0; exact ⟨h, h0⟩
        · rw [if_neg h] at h0; exact absurd h0 h
      have hq8 := (validP_ok hvq).1
      have hk : Cok Go.Proofs.Try.prog ⟨[], Th, 46, noX⟩ := cok_of trivial (by kernel_rfl) th_ok
      obtain ⟨A, hA⟩ : ∃ A : Nat → Act → World → Prop, A = fun m a W => ∃ x2 x3 x4 x5 x6 x8 x9 x10 x11 x12 x13 x14 x15 x16 x17 x18 x19 x20 x21 x22 x23 x24 x28 x29 x30 x31 x32 x33 x34 x35 x36 x37 x38 x39 x40 x41 x42 x43 x44 x45 : Value, a = ⟨#[.slice ap p.length capp, .slice aq q.length capq, x2, x3, x4, x5, x6, .map (some W4.heap.size), x8, x9, x10, x11, x12, x13, x14, x15, x16, x17, x18, x19, x20, x21, x22, x23, x24, .slice aq q.length capq, .int .i64 q.length, .int .i64 m, x28, x29, x30, x31, x32, x33, x34, x35, x36, x37, x38, x39, x40, x41, x42, x43, x44, x45], []⟩ ∧ ownsT W W4.heap.size (diffE p q m) ∧ Below w.heap.size w W := ⟨_, rfl⟩
      refine loop_upX (n := q.length) A ?_ ?_ 0 (by omega) _ _ (by rw [hA]; exact ⟨_, _, _, _, _, _, _, _, _, _, _, _, _, _, _, _, _, _, _, _, _, _, _, _, _, _, _, _, _, _, _, _, _, _, _, _, _, _, _, _, rfl, ownsT_new W4, hb04.alloc hsz4 _⟩)
      · intro a W hh
        rw [hA] at hh
        obtain ⟨x2, x3, x4, x5, x6, x8, x9, x10, x11, x12, x13, x14, x15, x16, x17, x18, x19, x20, x21, x22, x23, x24, x28, x29, x30, x31, x32, x33, x34, x35, x36, x37, x38, x39, x40, x41, x42, x43, x44, x45, rfl, hT, hb⟩ := hh
        refine wpIn_seq (ql_region rfl ?_)
        simp [ql, go_sem, Exit.then]
        refine wpIn_seq (wpIn_cond_false (by simp [Act.eval]) (wpIn_exit ?_))
        simp only [Exit.then, Exit.inBlock, if_true]
        refine wpIn_seq (ql_region rfl ?_)
        simp [ql, go_sem, Exit.then]
        have hln := diffE_len p q q.length
        refine (limited_call hT (by omega)).mono ?_
        rintro e W5 ⟨v, rfl, hown, hb5⟩
        obtain ⟨ao2, nn, c, rfl⟩ := own_slice hown
        simp [ql, go_sem, Exit.then]
        refine wpIn_ret ?_
        have s2 := hb.size
        have hB := hb.trans (hb5.mono s2)
        have hown2 := ownRes_base (w := w) hown s2
        have hp := ownE_post (n := limN (diffE p q q.length)) hown2 (lim_in _) hB
        refine ⟨rfl, .tuple #[.slice ao2 nn c, .int .i64 (limN (diffE p q q.length))], ?_, ?_⟩
        · simp [results, Go.Proofs.Try.results91, go_sem, limN]
        · dsimp only [cDiff4]
          unfold diffX diffN
          rw [if_pos h0, if_pos h0, if_pos hl, if_pos hl]
          exact hp
      · intro m a W hm hh
        rw [hA] at hh
        obtain ⟨x2, x3, x4, x5, x6, x8, x9, x10, x11, x12, x13, x14, x15, x16, x17, x18, x19, x20, x21, x22, x23, x24, x28, x29, x30, x31, x32, x33, x34, x35, x36, x37, x38, x39, x40, x41, x42, x43, x44, x45, rfl, hT, hb⟩ := hh
        obtain ⟨bp, offp, rfl, hbp, hixp, hlp⟩ := hpld (by intro e; rw [e] at hl; simp at hl; omega)
        obtain ⟨bq, offq, rfl, hbq, hixq, hlq⟩ := hqld (by intro e; rw [e] at hm; simp at hm)
        have hixq := hixq m hm
        obtain ⟨l, he, c0, c1, c2, c3⟩ := hlq m hm W (hb.block bq hbq)
        have hin : inL l := by rw [he]; exact hqin _ (mem_getD hm)
        refine wpIn_seq (ql_region rfl ?_)
        simp [ql, go_sem, Exit.then]
        refine wpIn_seq (wpIn_cond_true (by simp [Act.eval]; omega) (wpIn_skip ?_))
        simp only [Exit.then]
        refine wpIn_seq (wpIn_block (wpIn_seq (ql_region rfl ?_)))
        simp [ql, go_sem, Exit.then, hixq, c0, c1, c2, c3]
        obtain ⟨W6, hW6⟩ : ∃ W6, W6 = W.alloc (.cells #[.int .i64 l.1, .int .i64 l.2.1, .int .i64 l.2.2.1, .int .i64 l.2.2.2.1] 46) := ⟨_, rfl⟩
        have hh6 : W6.heap[W.heap.size]? = some (.cells #[.int .i64 l.1, .int .i64 l.2.1, .int .i64 l.2.2.1, .int .i64 l.2.2.2.1] 46) := by rw [hW6]; exact heap_self _ _
        have hT6 : ownsT W6 W4.heap.size (diffE p q m) := by rw [hW6]; exact hT.kept (Below.heap_alloc W _ _ hT.lt)
        have hb6 : Below w.heap.size w W6 := by rw [hW6]; exact hb.alloc hb.size _
        simp only [← hW6]
        refine wpIn_seq ?_
        have hR := rel_isl (w := W6) (n := 46) (kv := kvL [(0, .slice (some ⟨bp, offp, none⟩) p.length capp), (1, .slice (some ⟨bq, offq, none⟩) q.length capq), (7, .map (some W4.heap.size)), (8, .int .i64 m), (9, .pointer (some ⟨W.heap.size, 0, none⟩)), (25, .slice (some ⟨bq, offq, none⟩) q.length capq), (26, .int .i64 q.length), (27, .int .i64 m)]) (E := [(0, .d false tP p), (8, .d true .int (m : Int)), (9, .ept false tL l)]) (a := ⟨#[.slice (some ⟨bp, offp, none⟩) p.length capp, .slice (some ⟨bq, offq, none⟩) q.length capq, x2, x3, x4, x5, x6, .map (some W4.heap.size), .int .i64 m, .pointer (some ⟨W.heap.size, 0, none⟩), x10, x11, x12, x13, x14, x15, x16, x17, x18, x19, x20, x21, x22, x23, x24, .slice (some ⟨bq, offq, none⟩) q.length capq, .int .i64 q.length, .int .i64 m, .bool (decide (m < q.length)), .int .i64 m, .pointer (some ⟨bq, offq + m * 4, none⟩), .agg #[.int .i64 l.1, .int .i64 l.2.1, .int .i64 l.2.2.1, .int .i64 l.2.2.2.1], x32, x33, x34, x35, x36, x37, x38, x39, x40, x41, x42, x43, x44, x45], []⟩) rfl rfl (fun t v h => by
            have h := lk_in h
            simp at h
            rcases h with ⟨rfl, rfl⟩ | ⟨rfl, rfl⟩ | ⟨rfl, rfl⟩ | ⟨rfl, rfl⟩ | ⟨rfl, rfl⟩ | ⟨rfl, rfl⟩ | ⟨rfl, rfl⟩ | ⟨rfl, rfl⟩ <;> rfl) (fun t U hU G hS => by
            have hk7 := lk_key hU
            simp at hk7
            rcases hk7 with rfl | rfl | rfl
            · cases hU
              exact ⟨[_], rfl, c_mono tP (keep hpr hb6) fun b _ _ => hS b⟩
            · cases hU
              exact ⟨[.int .i64 m], rfl, rfl, by unfold inI; omega⟩
            · cases hU
              exact ⟨W.heap.size, 0, _, rfl, hS _, (Array.getElem?_eq_some_iff.1 hh6).1, (fun j v hj => by
                simp only [World.cell?, hh6]
                match j, hj with
                | 0, hj => cases hj; rfl
                | 1, hj => cases hj; rfl
                | 2, hj => cases hj; rfl
                | 3, hj => cases hj; rfl), ln_rep hin⟩)
        refine eng_thru hk mix_ok rfl rfl (ly := ⟨[(37, true)], []⟩) (x := ([(37, .d true .bool (!(tL.eqB (List.getD p (Int.toNat (m : Int)) tL.dflt) l)))], [])) hR (by kernel_rfl) (fun t ht => kvL_no (by show t ∉ [0, 1, 7, 8, 9, 25, 26, 27]; revert ht; revert t; decide)) ?_ ?_
        · have h0 : idx (m : Int) (p.length : Int) ∧ (([(37, V.d true .bool (!(tL.eqB (List.getD p (Int.toNat (m : Int)) tL.dflt) l)))], []) : Lst) = ([(37, .d true .bool (!(tL.eqB (List.getD p (Int.toNat (m : Int)) tL.dflt) l)))], []) := ⟨by unfold idx; omega, rfl⟩
          exact Eq.mpr (by kernel_rfl) h0
        · intro a3 W7 hR3
          have hb7 : Below W6.heap.size W6 W7 := hR3.low
          have hT7 := hT6.kept (hb7.block _ hT6.lt)
          have hb07 := hb6.trans (hb7.mono hb6.size)
          have hbv := rel_bool hR3 (d := 37) rfl
          have hcell : W7.heap[W.heap.size]? = W6.heap[W.heap.size]? := hb7.block _ (Array.getElem?_eq_some_iff.1 hh6).1
          obtain ⟨tm, df⟩ := a3
          obtain rfl : df = [] := hR3.nd.2 rfl
          obtain ⟨y0, y1, y2, y3, y4, y5, y6, y7, y8, y9, y10, y11, y12, y13, y14, y15, y16, y17, y18, y19, y20, y21, y22, y23, y24, y25, y26, y27, y28, y29, y30, y31, y32, y33, y34, y35, y36, y37, y38, y39, y40, y41, y42, y43, y44, y45, rfl⟩ := arr46 tm hR3.sz
          obtain rfl : y0 = .slice (some ⟨bp, offp, none⟩) p.length capp := hR3.kp 0 _ rfl
          obtain rfl : y1 = .slice (some ⟨bq, offq, none⟩) q.length capq := hR3.kp 1 _ rfl
          obtain rfl : y7 = .map (some W4.heap.size) := hR3.kp 7 _ rfl
          obtain rfl : y8 = .int .i64 m := hR3.kp 8 _ rfl
          obtain rfl : y9 = .pointer (some ⟨W.heap.size, 0, none⟩) := hR3.kp 9 _ rfl
          obtain rfl : y25 = .slice (some ⟨bq, offq, none⟩) q.length capq := hR3.kp 25 _ rfl
          obtain rfl : y26 = .int .i64 q.length := hR3.kp 26 _ rfl
          obtain rfl : y27 = .int .i64 m := hR3.kp 27 _ rfl
          rw [Int.toNat_natCast] at hbv
          simp only [Exit.then]
          by_cases hne : p.getD m tL.dflt = l
          · rw [(eqB_iff (t := tL) rfl).2 hne] at hbv
            refine wpIn_cond_false (by rw [hbv]; rfl) (wpIn_skip ?_)
            try simp only [Exit.inBlock, Exit.then]
            refine ql_region rfl ?_
            simp [ql, go_sem, Exit.then, Exit.inBlock]
            rw [show IntKind.i64.wrap ((m : Int) + 1) = ((m + 1 : Nat) : Int) from wrap_in (by unfold inI; omega), hA]
            have hd : diffE p q (m + 1) = diffE p q m := by rw [diffE_succ, if_pos (by rw [hne, he])]
            exact ⟨_, _, _, _, _, _, _, _, _, _, _, _, _, _, _, _, _, _, _, _, _, _, _, _, _, _, _, _, _, _, _, _, _, _, _, _, _, _, _, _, rfl, by rw [hd]; exact hT7, hb07⟩
          · rw [(eqB_neg (t := tL) rfl).2 hne] at hbv
            refine wpIn_cond_true (by rw [hbv]; rfl) ?_
            refine ql_region rfl ?_
            have e0 : W7.cell? ⟨W.heap.size, 0, none⟩ = some (.int .i64 l.1) := by rw [cell_same hcell]; simp only [World.cell?, hh6]; rfl
            have e1 : W7.cell? ⟨W.heap.size, 1, none⟩ = some (.int .i64 l.2.1) := by rw [cell_same hcell]; simp only [World.cell?, hh6]; rfl
            have e2 : W7.cell? ⟨W.heap.size, 2, none⟩ = some (.int .i64 l.2.2.1) := by rw [cell_same hcell]; simp only [World.cell?, hh6]; rfl
            have e3 : W7.cell? ⟨W.heap.size, 3, none⟩ = some (.int .i64 l.2.2.2.1) := by rw [cell_same hcell]; simp only [World.cell?, hh6]; rfl
            obtain ⟨W8, hr, hT8, hg⟩ := hT7.put (k := (m : Int)) (l := l) (by have := diffE_len p q m; omega) (by unfold inI; omega) hin
            simp only [lnV] at hr
            simp [ql, go_sem, Exit.then, Exit.inBlock, e0, e1, e2, e3, hr]
            try simp only [Exit.inBlock, Exit.then]
            refine ql_region rfl ?_
            simp [ql, go_sem, Exit.then, Exit.inBlock]
            rw [show IntKind.i64.wrap ((m : Int) + 1) = ((m + 1 : Nat) : Int) from wrap_in (by unfold inI; omega), hA]
            have hd := diffE_put (p := p) (q := q) (n := m) (by rw [← he]; exact hne)
            rw [← he] at hd
            rw [hd] at hT8
            have hs7 := hb07.size
            exact ⟨_, _, _, _, _, _, _, _, _, _, _, _, _, _, _, _, _, _, _, _, _, _, _, _, _, _, _, _, _, _, _, _, _, _, _, _, _, _, _, _, rfl, hT8, ⟨hg.os.trans hb07.os, hg.tape.trans hb07.tape, hg.output.trans hb07.output, Nat.le_trans hb07.size hg.size, fun i hi => (hg.block i (Nat.lt_of_lt_of_le hi hb07.size) (fun e => by have := Option.some.inj e; omega)).trans (hb07.block i hi)⟩⟩
    · refine wpIn_cond_true (by simp [Act.eval]; omega) (wpIn_seq (ql_region rfl ?_))
      simp [ql, go_sem, Exit.then]
      refine wpIn_ret ?_
      refine ⟨rfl, .tuple #[.slice none 0 0, .int .i64 9], ?_, ?_⟩
      · simp [results, Go.Proofs.Try.results91, go_sem]
      · dsimp only [cDiff4]
        unfold diffX diffN
        rw [if_pos h0, if_pos h0, if_neg hl, if_neg hl]
        exact ownE_post (ownRes_nil _ _) (by unfold inI; omega) hb04
  · refine wpIn_cond_true (by simp [Act.eval, h0]) (wpIn_seq (ql_region rfl ?_))
    simp [ql, go_sem, Exit.then]
    refine wpIn_ret ?_
    refine ⟨rfl, .tuple #[.slice none 0 0, .int .i64 (errPQ p q)], ?_, ?_⟩
    · simp [results, Go.Proofs.Try.results91, go_sem]
    · dsimp only [cDiff4]
      unfold diffX diffN
      rw [if_neg h0, if_neg h0]
      exact ownE_post (ownRes_nil _ _) hiB hb04
end Go.Tk
/- Plain facts: filters in place, comparing. No program in sight. -/
set_option linter.unusedSimpArgs false
set_option linter.unusedVariables false
set_option linter.unnecessarySimpa false
namespace Go.Tk
open Go Go.RowKit

theorem idxF_cases {α : Type} (d : α) (p : α → Bool) (s : List α) : (idxF p s = -1 ∧ s.any p = false) ∨ ∃ k, k < s.length ∧ idxF p s = (k : Int) ∧ (s.take k).any p = false ∧ p (s.getD k d) = true := by
  have key : ∀ i, i ≤ s.length → (s.take i).any p = false → (idxF p s = -1 ∧ s.any p = false) ∨ ∃ k, k < s.length ∧ idxF p s = (k : Int) ∧ (s.take k).any p = false ∧ p (s.getD k d) = true := by
    refine upto ?_ ?_
    · intro ha
      rw [List.take_length] at ha
      exact .inl ⟨idxF_none ha, ha⟩
    · intro i hi ih ha
      cases hv : p (s.getD i d)
      · exact ih (any_take_next d hi ha hv)
      · exact .inr ⟨i, hi, idxF_at d hi ha hv, ha, hv⟩
  exact key 0 (Nat.zero_le _) rfl

/-! ### DeleteFunc -/
def keepK {α : Type} (p : α → Bool) (s : List α) (j : Nat) : List α := (s.take j).filter fun r => !p r
theorem keepK_all {α : Type} (p : α → Bool) (s : List α) : keepK p s s.length = s.filter fun r => !p r := by unfold keepK; rw [List.take_length]
theorem keepK_len {α : Type} (p : α → Bool) (s : List α) (j : Nat) : (keepK p s j).length ≤ j := by
  unfold keepK
  exact Nat.le_trans (List.length_filter_le ..) (by rw [List.length_take]; omega)
theorem keepK_succ {α : Type} (d : α) (p : α → Bool) {s : List α} {j : Nat} (hj : j < s.length) : keepK p s (j + 1) = if p (s.getD j d) = true then keepK p s j else keepK p s j ++ [s.getD j d] := by
  unfold keepK
  rw [take_snoc d hj, List.filter_append]
  cases h : p (s.getD j d)
  · have : List.filter (fun r => !p r) [s.getD j d] = [s.getD j d] := by rw [List.filter_cons_of_pos (by rw [h]; rfl)]; rfl
    rw [this]; simp
  · have : List.filter (fun r => !p r) [s.getD j d] = [] := by rw [List.filter_cons_of_neg (by rw [h]; simp)]; rfl
    rw [this]; simp
theorem keepK_none {α : Type} {p : α → Bool} {s : List α} {j : Nat} (h : (s.take j).any p = false) : keepK p s j = s.take j := by
  unfold keepK
  rw [List.filter_eq_self]
  intro a ha
  have := List.any_eq_false.1 h a ha
  simpa using this
theorem filter_none {α : Type} {p : α → Bool} {s : List α} (h : s.any p = false) : (s.filter fun r => !p r) = s := by
  have := keepK_none (p := p) (s := s) (j := s.length) (by rw [List.take_length]; exact h)
  rw [keepK_all, List.take_length] at this
  exact this

/-- What the loop of DeleteFunc keeps. -/
structure DelI {α : Type} (p : α → Bool) (s s1 : List α) (j : Nat) : Prop where
  len : s1.length = s.length
  lt : (keepK p s j).length < j
  fst : s1.take (keepK p s j).length = keepK p s j
  rest : s1.drop j = s.drop j

theorem DelI.start {α : Type} (d : α) {p : α → Bool} {s : List α} {k : Nat} (hk : k < s.length) (h1 : (s.take k).any p = false) (h2 : p (s.getD k d) = true) : DelI p s s (k + 1) ∧ (keepK p s (k + 1)).length = k := by
  have e : keepK p s (k + 1) = s.take k := by rw [keepK_succ d p hk, if_pos h2, keepK_none h1]
  have l : (s.take k).length = k := by rw [List.length_take]; omega
  exact ⟨⟨rfl, by rw [e, l]; omega, by rw [e, l], rfl⟩, by rw [e, l]⟩
theorem DelI.get {α : Type} {d : α} {p : α → Bool} {s s1 : List α} {j : Nat} (h : DelI p s s1 j) (hj : j < s.length) : s1.getD j d = s.getD j d := by
  have h1 : (s1.drop j)[0]? = (s.drop j)[0]? := by rw [h.rest]
  simp only [List.getElem?_drop, Nat.add_zero] at h1
  rw [List.getD_eq_getElem?_getD, List.getD_eq_getElem?_getD, h1]
theorem DelI.keep {α : Type} {d : α} {p : α → Bool} {s s1 : List α} {j : Nat} (h : DelI p s s1 j) (hj : j < s.length) (hp : p (s.getD j d) = false) : DelI p s (s1.set (keepK p s j).length (s.getD j d)) (j + 1) ∧ (keepK p s (j + 1)).length = (keepK p s j).length + 1 := by
  have e : keepK p s (j + 1) = keepK p s j ++ [s.getD j d] := by rw [keepK_succ d p hj, if_neg (by rw [hp]; simp)]
  have hl : (keepK p s (j + 1)).length = (keepK p s j).length + 1 := by rw [e]; simp
  have hlt := h.lt
  refine ⟨⟨by rw [List.length_set]; exact h.len, by omega, ?_, ?_⟩, hl⟩
  · rw [hl, e, take_snoc d (by rw [List.length_set, h.len]; omega), List.take_set_of_le (Nat.le_refl _), h.fst]
    congr 1
    simp [List.getElem?_set, h.len, show (keepK p s j).length < s.length by omega]
  · rw [List.drop_set_of_lt (by omega)]
    have := congrArg (List.drop 1) h.rest
    simpa [List.drop_drop] using this
theorem DelI.skip {α : Type} {d : α} {p : α → Bool} {s s1 : List α} {j : Nat} (h : DelI p s s1 j) (hj : j < s.length) (hp : p (s.getD j d) = true) : DelI p s s1 (j + 1) ∧ keepK p s (j + 1) = keepK p s j := by
  have e : keepK p s (j + 1) = keepK p s j := by rw [keepK_succ d p hj, if_pos hp]
  have hlt := h.lt
  refine ⟨⟨h.len, by rw [e]; omega, by rw [e]; exact h.fst, ?_⟩, e⟩
  have := congrArg (List.drop 1) h.rest
  simpa [List.drop_drop] using this

/-! ### The search for a cover -/
def cmpI (x y : Int) : Int := if x < y then -1 else if x > y then 1 else 0
def cmpL : List Int → List Int → Int
  | [], [] => 0
  | [], _ :: _ => -1
  | _ :: _, [] => 1
  | x :: a, y :: b => if x = y then cmpL a b else cmpI x y

theorem cmpL_drop {a b : List Int} : ∀ i, a.take i = b.take i → i ≤ a.length → i ≤ b.length → cmpL a b = cmpL (a.drop i) (b.drop i)
  | 0, _, _, _ => rfl
  | i + 1, h, ha, hb => by
    cases a with
    | nil => simp at ha
    | cons x a => cases b with
      | nil => simp at hb
      | cons y b =>
        simp only [List.take_succ_cons, List.cons.injEq] at h
        simp only [List.drop_succ_cons]
        rw [show cmpL (x :: a) (y :: b) = if x = y then cmpL a b else cmpI x y from rfl, if_pos h.1]
        exact cmpL_drop i h.2 (by simpa using ha) (by simpa using hb)

theorem cmpL_at {a b : List Int} {i : Nat} (h : a.take i = b.take i) (ha : i < a.length) (hb : i < b.length) (hne : a.getD i 0 ≠ b.getD i 0) : cmpL a b = cmpI (a.getD i 0) (b.getD i 0) := by
  rw [cmpL_drop i h (by omega) (by omega)]
  have e1 : a.drop i = a.getD i 0 :: a.drop (i + 1) := by rw [List.drop_eq_getElem_cons ha]; simp [List.getD_eq_getElem?_getD, ha]
  have e2 : b.drop i = b.getD i 0 :: b.drop (i + 1) := by rw [List.drop_eq_getElem_cons hb]; simp [List.getD_eq_getElem?_getD, hb]
  rw [e1, e2]
  show (if _ = _ then _ else _) = _
  rw [if_neg hne]
theorem cmpL_gt {a b : List Int} {i : Nat} (h : a.take i = b.take i) (ha : i < a.length) (hb : b.length ≤ i) (hb2 : i ≤ b.length) : cmpL a b = 1 := by
  rw [cmpL_drop i h (by omega) hb2]
  have e1 : a.drop i = a.getD i 0 :: a.drop (i + 1) := by rw [List.drop_eq_getElem_cons ha]; simp [List.getD_eq_getElem?_getD, ha]
  have e2 : b.drop i = [] := List.drop_eq_nil_of_le hb
  rw [e1, e2]; rfl
theorem cmpL_end {a b : List Int} (h : a.take a.length = b.take a.length) (hb : a.length ≤ b.length) : cmpL a b = if a.length < b.length then -1 else 0 := by
  rw [cmpL_drop a.length h (Nat.le_refl _) hb]
  have e1 : a.drop a.length = [] := by simp
  rw [e1]
  split
  · rename_i hl
    have e2 : b.drop a.length = b.getD a.length 0 :: b.drop (a.length + 1) := by rw [List.drop_eq_getElem_cons hl]; simp [List.getD_eq_getElem?_getD, hl]
    rw [e2]; rfl
  · have e2 : b.drop a.length = [] := List.drop_eq_nil_of_le (by omega)
    rw [e2]; rfl

end Go.Tk
/- Plain facts of layer 4: what the functions answer. No program in sight. -/
set_option linter.unusedSimpArgs false
set_option linter.unusedVariables false
set_option linter.unnecessarySimpa false
namespace Go.Tk
open Go Go.RowKit
def errXT (p : List Lin) (x : List Edt) (l : List Tst) : Int := if validP p = 0 then (if validX x = 0 then (if validT l = 0 then (if far p.length x = true then 4 else 0) else validT l) else validX x) else validP p
def errX (p : List Lin) (x : List Edt) : Int := errXT p x []
theorem errXT_ok {p : List Lin} {x : List Edt} {l : List Tst} (h : errXT p x l = 0) : validP p = 0 ∧ validX x = 0 ∧ validT l = 0 ∧ inX p.length x := by
  unfold errXT at h
  split at h
  · rename_i h1
    split at h
    · rename_i h2
      split at h
      · rename_i h3
        split at h
        · cases h
        · rename_i h4
          refine ⟨h1, h2, h3, fun e he => ?_⟩
          have := List.any_eq_false.1 (Bool.eq_false_iff.2 h4) e he
          have h5 := (validX_ok h2).2 e he
          simp at this
          omega
      · rename_i h3; exact absurd h h3
    · rename_i h2; exact absurd h h2
  · rename_i h1; exact absurd h h1
theorem errXT_mk {p : List Lin} {x : List Edt} {l : List Tst} (h1 : validP p = 0) (h2 : validX x = 0) (h3 : validT l = 0) (h4 : inX p.length x) : errXT p x l = 0 := by
  unfold errXT
  rw [if_pos h1, if_pos h2, if_pos h3, if_neg]
  unfold far
  rw [Bool.not_eq_true, List.any_eq_false]
  intro e he
  have := h4 e he
  simp; omega
theorem validT_nil : validT [] = 0 := rfl
theorem errX_ok {p : List Lin} {x : List Edt} (h : errX p x = 0) : validP p = 0 ∧ validX x = 0 ∧ inX p.length x := ⟨(errXT_ok h).1, (errXT_ok h).2.1, (errXT_ok h).2.2.2⟩
theorem errX_mk {p : List Lin} {x : List Edt} (h1 : validP p = 0) (h2 : validX x = 0) (h4 : inX p.length x) : errX p x = 0 := errXT_mk h1 h2 validT_nil h4
theorem errXT_X {p : List Lin} {x : List Edt} {l : List Tst} (h : errXT p x l = 0) : errX p x = 0 := errX_mk (errXT_ok h).1 (errXT_ok h).2.1 (errXT_ok h).2.2.2
theorem validX_line4 {x : List Edt} (h : validX x = 0) : ∀ e ∈ x, validLine e.2.1 = true := by
  intro e he
  unfold validX at h
  split at h
  · omega
  · obtain ⟨i, hi, rfl⟩ := List.getElem_of_mem he
    have g := okTo_at _ (argErr_zero.1 h) i hi
    unfold edOK at g
    have ee : x.getD i tEd.dflt = x[i] := by simp [List.getD_eq_getElem?_getD, hi]
    rw [ee] at g
    simp at g
    exact g.2
theorem playX_all4 (x : List Edt) : ∀ p : List Lin, p.all validLine = true → (∀ e ∈ x, validLine e.2.1 = true) → (playX p x).all validLine = true := by
  induction x with
  | nil => intro p hp _; exact hp
  | cons e x ih =>
    intro p hp hx
    refine ih _ ?_ fun q hq => hx q (List.mem_cons_of_mem _ hq)
    rw [List.all_eq_true] at hp ⊢
    intro l hl
    rcases List.mem_or_eq_of_mem_set hl with g | g
    · exact hp l g
    · rw [g]; exact hx e List.mem_cons_self
theorem playX_valid {p : List Lin} {x : List Edt} (h1 : validP p = 0) (h2 : ∀ e ∈ x, validLine e.2.1 = true) : validP (playX p x) = 0 := by
  obtain ⟨h8, hall⟩ := validP_ok h1
  unfold validP
  rw [playX_len, if_neg (by omega), playX_all4 x p hall h2]; rfl
theorem errX_play {p : List Lin} {x : List Edt} (h : errX p x = 0) : validP (playX p x) = 0 := playX_valid (errX_ok h).1 (validX_line4 (errX_ok h).2.1)
def invE (p : List Lin) (e : Edt) : Edt := (e.1, p.getD e.1.toNat tL.dflt, ())
def invX (p : List Lin) (x : List Edt) : List Edt := x.map (invE p)
def fieldsN (l m : Lin) : Int := (if l.1 = m.1 then 0 else 1) + ((if l.2.1 = m.2.1 then 0 else 1) + ((if l.2.2.1 = m.2.2.1 then 0 else 1) + (if l.2.2.2.1 = m.2.2.2.1 then 0 else 1)))
theorem fieldsN_bd (l m : Lin) : 0 ≤ fieldsN l m ∧ fieldsN l m ≤ 4 := by unfold fieldsN; split <;> split <;> split <;> split <;> omega
theorem fieldsN_zero {l m : Lin} : fieldsN l m = 0 ↔ l = m := by
  obtain ⟨a1, a2, a3, a4, ⟨⟩⟩ := l
  obtain ⟨b1, b2, b3, b4, ⟨⟩⟩ := m
  unfold fieldsN
  simp only [Prod.mk.injEq, and_true]
  split <;> split <;> split <;> split <;> simp_all
def sizeX (p : List Lin) : List Edt → Int
  | [] => 0
  | e :: x => fieldsN (p.getD e.1.toNat tL.dflt) e.2.1 + sizeX p x
theorem sizeX_app (p : List Lin) (x y : List Edt) : sizeX p (x ++ y) = sizeX p x + sizeX p y := by
  induction x with
  | nil => simp [sizeX]
  | cons e x ih => rw [List.cons_append, sizeX, ih, sizeX]; omega
theorem sizeX_take {p : List Lin} {x : List Edt} {i : Nat} (h : i < x.length) : sizeX p (x.take (i + 1)) = sizeX p (x.take i) + fieldsN (p.getD (x.getD i tEd.dflt).1.toNat tL.dflt) (x.getD i tEd.dflt).2.1 := by
  rw [take_snoc tEd.dflt h, sizeX_app]; simp [sizeX]
theorem sizeX_bd (p : List Lin) (x : List Edt) : 0 ≤ sizeX p x ∧ sizeX p x ≤ 4 * x.length := by
  induction x with
  | nil => simp [sizeX]
  | cons e x ih =>
    have := fieldsN_bd (p.getD e.1.toNat tL.dflt) e.2.1
    rw [sizeX, List.length_cons]; omega
def sameE (p : List Lin) (e : Edt) : Bool := decide (p.getD e.1.toNat tL.dflt = e.2.1)
def cleanX (p : List Lin) (x : List Edt) : List Edt := x.filter fun e => !(sameE p e)
def okPl (at_ : List Int) : Nat → Bool
  | 0 => true
  | i + 1 => okPl at_ i && !(decide (at_.getD i 0 < 0) || decide (at_.getD i 0 ≥ 8) || (decide (i > 0) && decide (at_.getD (i - 1) 0 ≥ at_.getD i 0)))
theorem okPl_false {a : List Int} {i : Nat} (h : okPl a (i + 1) = false) : ∀ n, i < n → okPl a n = false
  | 0, hn => by omega
  | n + 1, hn => by
    by_cases e : i = n
    · subst e; exact h
    · unfold okPl
      rw [okPl_false h n (by omega), Bool.false_and]
def keepN (x : List Edt) (at_ : List Int) : Int := if validX x = 0 then argErr (okPl at_ at_.length) else validX x
def keepX (x : List Edt) (at_ : List Int) : List Edt := if keepN x at_ = 0 then x.filter fun e => decide (e.1 ∈ at_) else []
def threeL (b a c : List Lin) (i : Nat) : Lin := if c.getD i tL.dflt = b.getD i tL.dflt ∨ a.getD i tL.dflt = c.getD i tL.dflt then a.getD i tL.dflt else if a.getD i tL.dflt = b.getD i tL.dflt then c.getD i tL.dflt else b.getD i tL.dflt
def threeC (b a c : List Lin) (i : Nat) : Bool := !(decide (c.getD i tL.dflt = b.getD i tL.dflt) || decide (a.getD i tL.dflt = c.getD i tL.dflt) || decide (a.getD i tL.dflt = b.getD i tL.dflt))
def threeP (b a c : List Lin) (n : Nat) : List Lin := (List.range n).map (threeL b a c)
def threeI (b a c : List Lin) (n : Nat) : List Int := ((List.range n).filter (threeC b a c)).map fun (i : Nat) => (i : Int)
theorem threeP_len (b a c : List Lin) (n : Nat) : (threeP b a c n).length = n := by simp [threeP]
theorem threeI_len (b a c : List Lin) (n : Nat) : (threeI b a c n).length ≤ n := by
  unfold threeI
  rw [List.length_map]
  exact Nat.le_trans (List.length_filter_le _ _) (by simp)
theorem threeP_succ (b a c : List Lin) (n : Nat) : threeP b a c (n + 1) = threeP b a c n ++ [threeL b a c n] := by
  unfold threeP; rw [List.range_succ, List.map_append]; rfl
theorem threeI_succ (b a c : List Lin) (n : Nat) : threeI b a c (n + 1) = if threeC b a c n = true then threeI b a c n ++ [(n : Int)] else threeI b a c n := by
  unfold threeI
  rw [List.range_succ, List.filter_append, List.map_append]
  by_cases h : threeC b a c n = true
  · rw [if_pos h, List.filter_cons_of_pos h, List.filter_nil]; rfl
  · rw [if_neg h, List.filter_cons_of_neg h, List.filter_nil, List.map_nil, List.append_nil]
def err3 (b a c : List Lin) : Int := if validP b = 0 then (if validP a = 0 then validP c else validP a) else validP b
def threeN (b a c : List Lin) : Int := if err3 b a c = 0 then (if a.length = b.length ∧ c.length = b.length then 0 else 9) else err3 b a c
def turnedL (p q : List Lin) (l : List Tst) : List Int := (failL p l).filter fun i => decide (i ∈ whereL (passT q) l)
def goodX (p : List Lin) (x : List Edt) (l : List Tst) : Bool := (failL (playX p x) l).isEmpty
theorem upd_len {α : Type} (f : α → α) (l : List α) (i : Nat) : ((l.take i).map f ++ l.drop i).length = l.length := by simp; omega
theorem upd_get {α : Type} (f : α → α) (l : List α) (d : α) {i : Nat} (h : i < l.length) : ((l.take i).map f ++ l.drop i).getD i d = l.getD i d := by
  rw [List.getD_eq_getElem?_getD, List.getElem?_append_right (by simp; omega), List.length_map, List.length_take, Nat.min_eq_left (by omega), Nat.sub_self, List.getElem?_drop, Nat.add_zero, ← List.getD_eq_getElem?_getD]
theorem upd_set {α : Type} (f : α → α) (l : List α) (d : α) {i : Nat} (h : i < l.length) : ((l.take i).map f ++ l.drop i).set i (f (l.getD i d)) = (l.take (i + 1)).map f ++ l.drop (i + 1) := by
  rw [List.set_append_right _ _ (by simp; omega), take_snoc d h, List.map_append, List.append_assoc, List.length_map, List.length_take, Nat.min_eq_left (by omega), Nat.sub_self]
  congr 1
  rw [List.drop_eq_getElem_cons h, List.set_cons_zero]
  rfl
theorem three_out (b a c : List Lin) (base : List Lin) {i : Nat} (h : i < base.length) (v : Lin) (hv : v = threeL b a c i) : (threeP b a c i ++ base.drop i).set i v = threeP b a c (i + 1) ++ base.drop (i + 1) := by
  rw [List.set_append_right _ _ (by simp [threeP_len]), threeP_len, Nat.sub_self, threeP_succ, hv, List.append_assoc]
  congr 1
  rw [List.drop_eq_getElem_cons h, List.set_cons_zero]
  rfl
theorem three_keep (a c : List Lin) (base : List Lin) {i : Nat} (h : i < base.length) (hv : base.getD i tL.dflt = threeL base a c i) : threeP base a c i ++ base.drop i = threeP base a c (i + 1) ++ base.drop (i + 1) := by
  rw [threeP_succ, ← hv, List.append_assoc]
  congr 1
  rw [List.drop_eq_getElem_cons h, List.getD_eq_getElem?_getD, List.getElem?_eq_getElem h]
  rfl
theorem count_take {l : List Bool} {i : Nat} (h : i < l.length) : (((l.take (i + 1)).count true : Nat) : Int) = ((l.take i).count true : Nat) + (if l.getD i false = true then 1 else 0) := by
  rw [take_snoc false h, List.count_append]
  cases l.getD i false <;> simp
theorem fields_count (l m : Lin) : (([l.1 != m.1, l.2.1 != m.2.1, l.2.2.1 != m.2.2.1, l.2.2.2.1 != m.2.2.2.1].count true : Nat) : Int) = fieldsN l m := by
  unfold fieldsN
  have hb : ∀ a b : Int, (if ((a != b) == true) = true then 1 else 0 : Nat) = if a = b then 0 else 1 := by
    intro a b
    by_cases h : a = b <;> simp [h]
  simp only [List.count_cons, List.count_nil, hb]
  split <;> split <;> split <;> split <;> rfl
theorem or_three (a b c : Int) : (([a, b, c].find? fun e' => !(e' == 0)).getD 0) = if a = 0 then (if b = 0 then c else b) else a := by
  by_cases h : a = 0
  · rw [if_pos h]
    by_cases h2 : b = 0
    · rw [if_pos h2]
      by_cases h3 : c = 0
      · simp [h, h2, h3]
      · simp [h, h2, h3]
    · rw [if_neg h2]; simp [h, h2]
  · rw [if_neg h]; simp [h]
end Go.Tk
/- Plain facts of layer 4: parts of a patch, the smallest good one. No program in sight. -/
set_option linter.unusedSimpArgs false
set_option linter.unusedVariables false
set_option linter.unnecessarySimpa false
namespace Go.Tk
open Go Go.RowKit
theorem asc_map {x : List Edt} : Asc (readE x) ↔ x.Pairwise fun a b => a.1 < b.1 := by
  unfold Asc readE
  rw [List.pairwise_map]
theorem validX_mk {x : List Edt} (h1 : x.length ≤ 4) (h2 : ∀ e ∈ x, (0 ≤ e.1 ∧ e.1 < 8) ∧ validLine e.2.1 = true) (h3 : Asc (readE x)) : validX x = 0 := by
  unfold validX
  rw [if_neg (by omega)]
  have h3 := asc_map.1 h3
  have key : ∀ i, i ≤ x.length → okTo x i = true := by
    intro i
    induction i with
    | zero => intro _; rfl
    | succ i ih =>
      intro hi
      rw [okTo, ih (by omega), Bool.true_and]
      have hm := h2 _ (mem_getD (d := tEd.dflt) (show i < x.length by omega))
      unfold edOK
      rw [hm.2]
      have e1 : decide ((x.getD i tEd.dflt).1 < 0) = false := decide_eq_false (by omega)
      have e2 : decide ((x.getD i tEd.dflt).1 ≥ 8) = false := decide_eq_false (by omega)
      rw [e1, e2]
      by_cases hz : i > 0
      · have := List.pairwise_iff_getElem.1 h3 (i - 1) i (by omega) (by omega) (by omega)
        have g1 : x.getD (i - 1) tEd.dflt = x[i - 1] := by rw [List.getD_eq_getElem?_getD, List.getElem?_eq_getElem (by omega)]; rfl
        have g2 : x.getD i tEd.dflt = x[i] := by rw [List.getD_eq_getElem?_getD, List.getElem?_eq_getElem (by omega)]; rfl
        rw [g1, g2, decide_eq_false (show ¬ (x[i - 1]).1 ≥ (x[i]).1 by omega)]
        simp
      · rw [decide_eq_false hz]; rfl
  rw [key _ (Nat.le_refl _)]; rfl
theorem validX_sub {x a : List Edt} (h : validX x = 0) (ha : a.Sublist x) : validX a = 0 := by
  have h1 := validX_ok h
  have h2 := validX_line4 h
  refine validX_mk (Nat.le_trans ha.length_le h1.1) (fun e he => ⟨h1.2 e (ha.subset he), h2 e (ha.subset he)⟩) ?_
  rw [asc_map]
  exact (asc_map.1 (validX_asc h)).sublist ha
theorem errXT_sub {p : List Lin} {x a : List Edt} {l : List Tst} (h : errXT p x l = 0) (ha : a.Sublist x) : errXT p a l = 0 := by
  obtain ⟨h1, h2, h3, h4⟩ := errXT_ok h
  exact errXT_mk h1 (validX_sub h2 ha) h3 fun e he => h4 e (ha.subset he)
/-! ### The parts -/
def partsTo (x : List Edt) : Nat → List (List Edt)
  | 0 => [[]]
  | i + 1 => partsTo x i ++ (partsTo x i).map (· ++ [x.getD i tEd.dflt])
def partsL (x : List Edt) : List (List Edt) := partsTo x x.length
theorem partsTo_len (x : List Edt) : ∀ i, (partsTo x i).length = 2 ^ i
  | 0 => rfl
  | i + 1 => by rw [partsTo, List.length_append, List.length_map, partsTo_len x i, Nat.pow_succ]; omega
theorem pow_le {i : Nat} (h : i ≤ 4) : 2 ^ i ≤ 16 := Nat.pow_le_pow_right (by omega) h
theorem snoc_sub {l a : List Edt} {e : Edt} : a.Sublist (l ++ [e]) ↔ a.Sublist l ∨ ∃ b, b.Sublist l ∧ a = b ++ [e] := by
  rw [List.sublist_append_iff]
  constructor
  · rintro ⟨l1, l2, rfl, h1, h2⟩
    rcases List.sublist_cons_iff.1 h2 with h3 | ⟨r, rfl, h3⟩
    · obtain rfl := List.sublist_nil.1 h3
      rw [List.append_nil]; exact .inl h1
    · obtain rfl := List.sublist_nil.1 h3
      exact .inr ⟨l1, h1, rfl⟩
  · rintro (h | ⟨b, h, rfl⟩)
    · exact ⟨a, [], by simp, h, by simp⟩
    · exact ⟨b, [e], rfl, h, List.Sublist.refl _⟩
theorem parts_iff (x : List Edt) (a : List Edt) : ∀ i, i ≤ x.length → (a ∈ partsTo x i ↔ a.Sublist (x.take i)) := by
  intro i
  induction i generalizing a with
  | zero => intro _; simp [partsTo]
  | succ i ih =>
    intro hi
    rw [partsTo, List.mem_append, List.mem_map, take_snoc tEd.dflt (show i < x.length by omega), snoc_sub, ih a (by omega)]
    constructor
    · rintro (h | ⟨b, h, rfl⟩)
      · exact .inl h
      · exact .inr ⟨b, (ih b (by omega)).1 h, rfl⟩
    · rintro (h | ⟨b, h, rfl⟩)
      · exact .inl h
      · exact .inr ⟨b, (ih b (by omega)).2 h, rfl⟩
theorem partsL_iff {x a : List Edt} : a ∈ partsL x ↔ a.Sublist x := by
  unfold partsL
  rw [parts_iff x a _ (Nat.le_refl _), List.take_length]
/-! ### The smallest -/
def cmpPart (a b : List Edt) : Int := if cmpI a.length b.length = 0 then cmpL (a.map (·.1)) (b.map (·.1)) else cmpI a.length b.length
def minU (f : List Edt → List Edt → List Edt) (l : List (List Edt)) : Nat → List Edt
  | 0 => l.getD 0 []
  | i + 1 => f (minU f l i) (l.getD (i + 1) [])
def minF (f : List Edt → List Edt → List Edt) (l : List (List Edt)) : List Edt := minU f l (l.length - 1)
theorem minU_mem {f : List Edt → List Edt → List Edt} {l : List (List Edt)} (hf : ∀ m b, f m b = m ∨ f m b = b) : ∀ i, i < l.length → minU f l i ∈ l := by
  intro i
  induction i with
  | zero => intro hi; exact mem_getD hi
  | succ i ih =>
    intro hi
    rw [minU]
    rcases hf (minU f l i) (l.getD (i + 1) []) with h | h
    · rw [h]; exact ih (by omega)
    · rw [h]; exact mem_getD hi
def minStep (m b : List Edt) : List Edt := if cmpPart b m < 0 then b else m
abbrev minTo (l : List (List Edt)) : Nat → List Edt := minU minStep l
abbrev minL (l : List (List Edt)) : List Edt := minF minStep l
theorem cmpPart_lt {a b : List Edt} : cmpPart a b < 0 ↔ a.length < b.length ∨ a.length = b.length ∧ cmpL (a.map (·.1)) (b.map (·.1)) < 0 := by
  unfold cmpPart cmpI
  by_cases h1 : a.length < b.length
  · rw [if_pos (show (a.length : Int) < b.length by omega), if_neg (by omega)]
    exact ⟨fun _ => .inl h1, fun _ => by omega⟩
  · rw [if_neg (show ¬ (a.length : Int) < b.length by omega)]
    by_cases h2 : a.length = b.length
    · rw [if_neg (show ¬ (a.length : Int) > b.length by omega), if_pos rfl]
      exact ⟨fun h => .inr ⟨h2, h⟩, fun h => by rcases h with h | h; · omega
                                                · exact h.2⟩
    · rw [if_pos (show (a.length : Int) > b.length by omega), if_neg (by omega)]
      exact ⟨fun h => by omega, fun h => by rcases h with h | h <;> omega⟩
theorem minStep_len (m b : List Edt) : (minStep m b).length ≤ m.length ∧ (minStep m b).length ≤ b.length := by
  unfold minStep
  split
  · rename_i h
    rcases cmpPart_lt.1 h with h | h <;> omega
  · rename_i h
    rw [cmpPart_lt] at h
    omega
theorem minTo_mem {l : List (List Edt)} : ∀ i, i < l.length → minTo l i ∈ l.take (i + 1) := by
  intro i
  induction i with
  | zero => intro hi; rw [take_snoc [] hi]; simp [minU]
  | succ i ih =>
    intro hi
    rw [take_snoc [] hi, show minTo l (i + 1) = minStep (minTo l i) (l.getD (i + 1) []) from rfl]
    unfold minStep
    split
    · simp
    · exact List.mem_append_left _ (ih (by omega))
theorem minL_mem {l : List (List Edt)} (h : l ≠ []) : minL l ∈ l := by
  have : 0 < l.length := List.length_pos_iff.2 h
  exact List.mem_of_mem_take (minTo_mem (l := l) (l.length - 1) (by omega))
theorem minTo_le {l : List (List Edt)} : ∀ i, i < l.length → ∀ b ∈ l.take (i + 1), (minTo l i).length ≤ b.length := by
  intro i
  induction i with
  | zero => intro hi b hb; rw [take_snoc [] hi] at hb; simp at hb; rw [hb]; simp [minU]
  | succ i ih =>
    intro hi b hb
    rw [take_snoc [] hi] at hb
    have h := minStep_len (minTo l i) (l.getD (i + 1) [])
    rw [show minTo l (i + 1) = minStep (minTo l i) (l.getD (i + 1) []) from rfl]
    rcases List.mem_append.1 hb with hb | hb
    · have := ih (by omega) b hb; omega
    · simp only [List.mem_singleton] at hb; rw [hb]; exact h.2
theorem minL_le {l : List (List Edt)} {b : List Edt} (h : b ∈ l) : (minL l).length ≤ b.length := by
  have : 0 < l.length := List.length_pos_of_mem h
  refine minTo_le (l := l) (l.length - 1) (by omega) b ?_
  rw [Nat.sub_add_cancel (by omega), List.take_length]; exact h
/-- The good parts. -/
def goodL (p : List Lin) (x : List Edt) (l : List Tst) : List (List Edt) := (partsL x).filter fun a => goodX p a l
def smallX (p : List Lin) (x : List Edt) (l : List Tst) : List Edt := if goodL p x l = [] then [] else minL (goodL p x l)
def smallB (p : List Lin) (x : List Edt) (l : List Tst) : Bool := !(decide (goodL p x l = []))
def minimB (p : List Lin) (x : List Edt) (l : List Tst) : Bool := smallB p x l && decide ((smallX p x l).length = x.length)
theorem goodL_iff {p : List Lin} {x a : List Edt} {l : List Tst} : a ∈ goodL p x l ↔ a.Sublist x ∧ goodX p a l = true := by
  unfold goodL
  rw [List.mem_filter, partsL_iff]
theorem or_two (a b : Int) : (([a, b].find? fun e' => !(e' == 0)).getD 0) = if a = 0 then b else a := by
  by_cases h : a = 0
  · rw [if_pos h]
    by_cases h2 : b = 0
    · simp [h, h2]
    · simp [h, h2]
  · rw [if_neg h]; simp [h]
/-- A part is minimal if it is good and no shorter one is. -/
theorem minimB_iff {p : List Lin} {x : List Edt} {l : List Tst} : minimB p x l = true ↔ goodX p x l = true ∧ ∀ a, a.Sublist x → a.length < x.length → goodX p a l = false := by
  unfold minimB smallB smallX
  by_cases h : goodL p x l = []
  · rw [decide_eq_true h]
    constructor
    · intro e; cases e
    · rintro ⟨e, _⟩
      have : x ∈ goodL p x l := goodL_iff.2 ⟨List.Sublist.refl _, e⟩
      rw [h] at this; cases this
  · rw [decide_eq_false h, if_neg h, Bool.not_false, Bool.true_and, decide_eq_true_eq]
    have hm := goodL_iff.1 (minL_mem h)
    constructor
    · intro e
      refine ⟨?_, fun a ha hl => ?_⟩
      · have := hm.1.eq_of_length e
        rw [← this]; exact hm.2
      · rw [← Bool.not_eq_true]
        intro hg
        have := minL_le (goodL_iff.2 ⟨ha, hg⟩)
        omega
    · rintro ⟨e1, e2⟩
      have h1 := minL_le (goodL_iff.2 ⟨List.Sublist.refl x, e1⟩)
      by_cases h2 : (minL (goodL p x l)).length < x.length
      · have := e2 _ hm.1 h2
        rw [hm.2] at this; cases this
      · omega
end Go.Tk
/- Plain facts of layer 4: the document's answers, and the laws. No program in sight. -/
set_option linter.unusedSimpArgs false
set_option linter.unusedVariables false
set_option linter.unnecessarySimpa false
namespace Go.Tk
open Go Go.RowKit
theorem ext_getD {α : Type} (d : α) {a b : List α} (hl : a.length = b.length) (h : ∀ i, i < a.length → a.getD i d = b.getD i d) : a = b := by
  refine List.ext_getElem hl fun i h1 h2 => ?_
  have := h i h1
  rw [List.getD_eq_getElem?_getD, List.getD_eq_getElem?_getD, List.getElem?_eq_getElem h1, List.getElem?_eq_getElem h2] at this
  exact this
theorem nat_of {k : Int} (h : 0 ≤ k) : ∃ i : Nat, k = (i : Int) := ⟨k.toNat, by omega⟩
/-! ### Tables by place -/
def tabE (f : Int → Option Lin) : Nat → List (Int × Lin)
  | 0 => []
  | i + 1 => tabE f i ++ (match f i with | some l => [((i : Int), l)] | none => [])
theorem tabE_mem {f : Int → Option Lin} {k : Int} {l : Lin} : ∀ {n : Nat}, (k, l) ∈ tabE f n ↔ (0 ≤ k ∧ k < n ∧ f k = some l)
  | 0 => by simp [tabE]; omega
  | n + 1 => by
    rw [tabE, List.mem_append, tabE_mem]
    constructor
    · rintro (⟨h1, h2, h3⟩ | h)
      · exact ⟨h1, by omega, h3⟩
      · cases e : f n with
        | none => rw [e] at h; cases h
        | some m =>
          rw [e] at h
          simp only [List.mem_singleton, Prod.mk.injEq] at h
          obtain ⟨rfl, rfl⟩ := h
          exact ⟨by omega, by omega, e⟩
    · rintro ⟨h1, h2, h3⟩
      by_cases e : k = (n : Int)
      · subst e
        rw [h3]; exact .inr (by simp)
      · exact .inl ⟨h1, by omega, h3⟩
theorem tabE_asc (f : Int → Option Lin) : ∀ n, Asc (tabE f n)
  | 0 => List.Pairwise.nil
  | n + 1 => by
    unfold Asc tabE
    rw [List.pairwise_append]
    refine ⟨tabE_asc f n, ?_, ?_⟩
    · cases f n <;> simp
    · intro a ha b hb
      have h1 := (tabE_mem (k := a.1) (l := a.2)).1 ha
      cases e : f n with
      | none => rw [e] at hb; cases hb
      | some m =>
        rw [e] at hb
        simp only [List.mem_singleton] at hb
        subst hb
        exact h1.2.1
theorem tabE_len (f : Int → Option Lin) : ∀ n, (tabE f n).length ≤ n
  | 0 => Nat.le_refl _
  | n + 1 => by
    have := tabE_len f n
    rw [tabE, List.length_append]
    cases f n <;> simp <;> omega
theorem asc_mem {E F : List (Int × Lin)} (hE : Asc E) (hF : Asc F) (h : ∀ k l, (k, l) ∈ E ↔ (k, l) ∈ F) : E = F := by
  refine asc_ext hE hF fun k => ?_
  refine Option.ext fun l => ?_
  rw [look_mem hE, look_mem hF, h]
theorem tabE_eq {E : List (Int × Lin)} {f : Int → Option Lin} {n : Nat} (hE : Asc E) (hb : ∀ e ∈ E, 0 ≤ e.1 ∧ e.1 < n) (hf : ∀ k, f k = lookE E k) : tabE f n = E := by
  refine asc_mem (tabE_asc f n) hE fun k l => ?_
  rw [tabE_mem, hf, look_mem hE]
  exact ⟨fun h => h.2.2, fun h => ⟨(hb _ h).1, (hb _ h).2, h⟩⟩
def thnF (x y : List Edt) (k : Int) : Option Lin := match lookE (readE y) k with | some l => some l | none => lookE (readE x) k
theorem read_mem {x : List Edt} {k : Int} {l : Lin} : (k, l) ∈ readE x ↔ ((k, l, ()) : Edt) ∈ x := by
  unfold readE
  rw [List.mem_map]
  constructor
  · rintro ⟨⟨a, b, ⟨⟩⟩, h, e⟩
    cases e; exact h
  · intro h; exact ⟨_, h, rfl⟩
theorem read_edit (E : List (Int × Lin)) : readE (editE E) = E := by unfold readE editE; rw [List.map_map]; exact List.map_id' _
theorem edit_read (x : List Edt) : editE (readE x) = x := by
  unfold readE editE; rw [List.map_map]; exact List.map_id' _
theorem edit_len (E : List (Int × Lin)) : (editE E).length = E.length := by simp [editE]
theorem read_len (x : List Edt) : (readE x).length = x.length := by simp [readE]
theorem edit_app (E F : List (Int × Lin)) : editE (E ++ F) = editE E ++ editE F := by simp [editE]
theorem read_at {x : List Edt} {i : Nat} (h : i < x.length) : (readE x).getD i (0, tL.dflt) = ((x.getD i tEd.dflt).1, (x.getD i tEd.dflt).2.1) := by
  unfold readE
  rw [List.getD_eq_getElem?_getD, List.getElem?_map, List.getElem?_eq_getElem h, List.getD_eq_getElem?_getD, List.getElem?_eq_getElem h]; rfl
theorem ext_play {p q : List Lin} {x y : List Edt} (hx : Asc (readE x)) (hy : Asc (readE y)) (ix : inX p.length x) (iy : inX q.length y) (hl : p.length = q.length)
    (h : ∀ i : Nat, i < p.length → (match lookE (readE x) i with | some l => l | none => p.getD i tL.dflt) = (match lookE (readE y) i with | some l => l | none => q.getD i tL.dflt)) : playX p x = playX q y := by
  refine ext_getD tL.dflt (by rw [playX_len, playX_len, hl]) fun i hi => ?_
  rw [playX_len] at hi
  rw [play_look x p i _ hx ix hi, play_look y q i _ hy iy (by omega)]
  exact h i hi
theorem play_at {p q : List Lin} {x : List Edt} (hx : Asc (readE x)) (ix : inX p.length x) (hl : p.length = q.length)
    (h : ∀ i : Nat, i < p.length → (match lookE (readE x) i with | some l => l | none => p.getD i tL.dflt) = q.getD i tL.dflt) : playX p x = q :=
  ext_play (y := []) (q := q) hx List.Pairwise.nil ix (fun e he => by cases he) hl h
theorem inX_read {n : Nat} {x : List Edt} : inX n x ↔ ∀ e ∈ readE x, 0 ≤ e.1 ∧ e.1 < n := by
  unfold inX readE
  constructor
  · intro h e he
    obtain ⟨a, ha, rfl⟩ := List.mem_map.1 he
    exact h a ha
  · intro h e he
    exact h _ (List.mem_map_of_mem he)
theorem look_inX {n : Nat} {x : List Edt} (h : inX n x) {k : Int} {l : Lin} (hk : lookE (readE x) k = some l) : 0 ≤ k ∧ k < n := inX_read.1 h _ (look_in hk)
theorem look_line {x : List Edt} (h : ∀ e ∈ x, validLine e.2.1 = true) {k : Int} {l : Lin} (hk : lookE (readE x) k = some l) : validLine l = true := by
  have := look_in hk
  rw [read_mem] at this
  exact h _ this
/-- A table that is right as a patch. -/
theorem validX_edit {E : List (Int × Lin)} (h1 : E.length ≤ 4) (h2 : Asc E) (h3 : ∀ k l, (k, l) ∈ E → (0 ≤ k ∧ k < 8) ∧ validLine l = true) : validX (editE E) = 0 := by
  refine validX_mk (by rw [edit_len]; exact h1) (fun e he => ?_) (by rw [read_edit]; exact h2)
  obtain ⟨⟨k, l⟩, hk, rfl⟩ := List.mem_map.1 he
  exact h3 k l hk
theorem validP_line {p : List Lin} (h : validP p = 0) {i : Nat} (hi : i < p.length) : validLine (p.getD i tL.dflt) = true := List.all_eq_true.1 (validP_ok h).2 _ (mem_getD hi)
/-! ### Undo -/
theorem inv_read (p : List Lin) (x : List Edt) : readE (invX p x) = (readE x).map fun e => (e.1, p.getD e.1.toNat tL.dflt) := by
  unfold readE invX
  rw [List.map_map, List.map_map]; rfl
theorem look_inv (p : List Lin) (k : Int) : ∀ E : List (Int × Lin), lookE (E.map fun e => (e.1, p.getD e.1.toNat tL.dflt)) k = (lookE E k).map fun _ => p.getD k.toNat tL.dflt
  | [] => rfl
  | (a, m) :: E => by
    rw [List.map_cons]
    simp only [lookE]
    by_cases e : a = k
    · rw [if_pos e, if_pos e, e]; rfl
    · rw [if_neg e, if_neg e, look_inv p k E]
theorem inv_asc {p : List Lin} {x : List Edt} (h : Asc (readE x)) : Asc (readE (invX p x)) := by
  rw [inv_read]
  unfold Asc
  rw [List.pairwise_map]
  exact h
theorem inv_in {n : Nat} {p : List Lin} {x : List Edt} (h : inX n x) : inX n (invX p x) := by
  intro e he
  obtain ⟨a, ha, rfl⟩ := List.mem_map.1 he
  exact h a ha
theorem inv_errX {p : List Lin} {x : List Edt} (h : errX p x = 0) : errX (playX p x) (invX p x) = 0 := by
  obtain ⟨h1, h2, h3⟩ := errX_ok h
  have h4 := validX_ok h2
  refine errX_mk (errX_play h) (validX_mk ?_ ?_ (inv_asc (validX_asc h2))) (by rw [playX_len]; exact inv_in h3)
  · unfold invX; rw [List.length_map]; exact h4.1
  · intro e he
    obtain ⟨a, ha, rfl⟩ := List.mem_map.1 he
    have ha2 := h3 a ha
    exact ⟨h4.2 a ha, validP_line h1 (i := a.1.toNat) (by omega)⟩
theorem undo_play {p : List Lin} {x : List Edt} (h : errX p x = 0) : playX (playX p x) (invX p x) = p := by
  obtain ⟨h1, h2, h3⟩ := errX_ok h
  have ha := validX_asc h2
  refine play_at (inv_asc ha) (by rw [playX_len]; exact inv_in h3) (playX_len x p) fun i hi => ?_
  rw [playX_len] at hi
  rw [inv_read, look_inv, play_look x p i _ ha h3 hi]
  cases lookE (readE x) i with
  | none => rfl
  | some l => show p.getD (Int.toNat (i : Int)) tL.dflt = _; rw [Int.toNat_natCast]
theorem undo_inv {p : List Lin} {x : List Edt} (h : errX p x = 0) : invX (playX p x) (invX p x) = x := by
  obtain ⟨h1, h2, h3⟩ := errX_ok h
  have ha := validX_asc h2
  unfold invX
  rw [List.map_map]
  have : ∀ e ∈ x, (invE (playX p x) ∘ invE p) e = e := by
    rintro ⟨k, l, ⟨⟩⟩ he
    have h4 := h3 _ he
    obtain ⟨i, rfl⟩ := nat_of h4.1
    show ((i : Int), (playX p x).getD (Int.toNat (i : Int)) tL.dflt, ()) = _
    rw [Int.toNat_natCast, play_look x p i _ ha h3 (by have := h4.2; simp at this; omega), (look_mem ha).2 (read_mem.2 he)]
  rw [List.map_congr_left this]; exact List.map_id' _
/-! ### Clean -/
theorem clean_sub (p : List Lin) (x : List Edt) : (cleanX p x).Sublist x := List.filter_sublist
theorem clean_err {p : List Lin} {x : List Edt} (h : errX p x = 0) : errX p (cleanX p x) = 0 := errXT_sub h (clean_sub p x)
theorem clean_size (p : List Lin) : ∀ x : List Edt, sizeX p (cleanX p x) = sizeX p x
  | [] => rfl
  | e :: x => by
    unfold cleanX
    by_cases h : sameE p e = true
    · rw [List.filter_cons_of_neg (by rw [h]; simp), sizeX]
      have := clean_size p x
      unfold cleanX at this
      rw [this, fieldsN_zero.2 (of_decide_eq_true h)]; omega
    · rw [List.filter_cons_of_pos (by simpa using h), sizeX, sizeX]
      have := clean_size p x
      unfold cleanX at this
      rw [this]
theorem clean_count (p : List Lin) : ∀ x : List Edt, ((cleanX p x).length : Int) ≤ sizeX p (cleanX p x)
  | [] => by simp [cleanX, sizeX]
  | e :: x => by
    have ih := clean_count p x
    unfold cleanX at ih ⊢
    by_cases h : sameE p e = true
    · rw [List.filter_cons_of_neg (by rw [h]; simp)]; exact ih
    · rw [List.filter_cons_of_pos (by simpa using h), sizeX, List.length_cons]
      have h1 := fieldsN_bd (p.getD e.1.toNat tL.dflt) e.2.1
      have h2 : fieldsN (p.getD e.1.toNat tL.dflt) e.2.1 ≠ 0 := fun g => h (decide_eq_true (fieldsN_zero.1 g))
      omega
theorem clean_mem {p : List Lin} {x : List Edt} {k : Int} {l : Lin} : (k, l) ∈ readE (cleanX p x) ↔ (k, l) ∈ readE x ∧ p.getD k.toNat tL.dflt ≠ l := by
  rw [read_mem, read_mem]
  unfold cleanX sameE
  rw [List.mem_filter]
  simp
theorem clean_asc {p : List Lin} {x : List Edt} (h : Asc (readE x)) : Asc (readE (cleanX p x)) := asc_map.2 ((asc_map.1 h).sublist (clean_sub p x))
theorem clean_play {p : List Lin} {x : List Edt} (h : errX p x = 0) : playX p (cleanX p x) = playX p x := by
  obtain ⟨h1, h2, h3⟩ := errX_ok h
  have ha := validX_asc h2
  have hc := clean_asc (p := p) ha
  refine ext_play hc ha (fun e he => h3 e ((clean_sub p x).subset he)) h3 rfl fun i hi => ?_
  cases e : lookE (readE x) i with
  | none =>
    rw [show lookE (readE (cleanX p x)) i = none from ?_]
    cases e2 : lookE (readE (cleanX p x)) i with
    | none => rfl
    | some l =>
      have := (clean_mem.1 ((look_mem hc).1 e2)).1
      rw [← look_mem ha, e] at this; cases this
  | some l =>
    have hm := (look_mem ha).1 e
    by_cases g : p.getD i tL.dflt = l
    · cases e2 : lookE (readE (cleanX p x)) i with
      | none => exact g
      | some m =>
        have h5 := clean_mem.1 ((look_mem hc).1 e2)
        have h6 := h5.1
        rw [← look_mem ha, e] at h6
        cases h6; rfl
    · rw [(look_mem hc).2 (clean_mem.2 ⟨hm, by rw [Int.toNat_natCast]; exact g⟩)]
/-! ### Diff -/
theorem diff_mem {p q : List Lin} {n : Nat} {k : Int} {l : Lin} : (k, l) ∈ diffE p q n ↔ ∃ i : Nat, i < n ∧ k = i ∧ l = q.getD i tL.dflt ∧ p.getD i tL.dflt ≠ q.getD i tL.dflt := by
  unfold diffE
  rw [List.mem_map]
  constructor
  · rintro ⟨i, hi, e⟩
    rw [List.mem_filter] at hi
    cases e
    exact ⟨i, List.mem_range.1 hi.1, rfl, rfl, by simpa using hi.2⟩
  · rintro ⟨i, hi, rfl, rfl, h⟩
    exact ⟨i, List.mem_filter.2 ⟨List.mem_range.2 hi, by simpa using h⟩, rfl⟩
theorem diff_asc (p q : List Lin) : ∀ n, Asc (diffE p q n)
  | 0 => List.Pairwise.nil
  | n + 1 => by
    by_cases h : p.getD n tL.dflt = q.getD n tL.dflt
    · rw [diffE_succ, if_pos h]; exact diff_asc p q n
    · rw [← diffE_put h]; exact putE_asc (diff_asc p q n)
theorem diff_ok {p q : List Lin} (h : diffN p q = 0) : validP p = 0 ∧ validP q = 0 ∧ p.length = q.length ∧ (diffE p q q.length).length ≤ 4 ∧ diffX p q = editE (diffE p q q.length) := by
  unfold diffN at h
  split at h
  · rename_i h0
    split at h
    · rename_i h1
      unfold limN at h
      split at h
      · cases h
      · rename_i h2
        have : diffX p q = editE (diffE p q q.length) := by unfold diffX limE; rw [if_pos h0, if_pos h1, if_neg h2]
        unfold errPQ at h0
        split at h0
        · exact ⟨by assumption, h0, h1, by omega, this⟩
        · rename_i g; exact absurd h0 g
    · cases h
  · rename_i h0; exact absurd h h0
theorem diff_bd {p q : List Lin} {n : Nat} : ∀ e ∈ diffE p q n, 0 ≤ e.1 ∧ e.1 < (n : Int) := by
  rintro ⟨k, l⟩ h
  obtain ⟨i, hi, rfl, _⟩ := diff_mem.1 h
  exact ⟨by show (0 : Int) ≤ i; omega, by show (i : Int) < n; omega⟩
theorem diff_err {p q : List Lin} (h : diffN p q = 0) : errX p (diffX p q) = 0 := by
  obtain ⟨h1, h2, h3, h4, h5⟩ := diff_ok h
  have h8 := (validP_ok h2).1
  rw [h5]
  refine errX_mk h1 (validX_edit h4 (diff_asc p q _) fun k l hk => ?_) ?_
  · obtain ⟨i, hi, rfl, rfl, _⟩ := diff_mem.1 hk
    exact ⟨by omega, validP_line h2 hi⟩
  · rw [inX_read, read_edit, h3]; exact diff_bd
theorem diff_look {p q : List Lin} {i n : Nat} (hi : i < n) : lookE (diffE p q n) i = if p.getD i tL.dflt = q.getD i tL.dflt then none else some (q.getD i tL.dflt) := by
  refine Option.ext fun l => ?_
  rw [look_mem (diff_asc p q n), diff_mem]
  constructor
  · rintro ⟨j, h1, h2, rfl, h4⟩
    have : i = j := by omega
    subst this
    rw [if_neg h4]
  · intro h
    split at h
    · cases h
    · rename_i g; cases h; exact ⟨i, hi, rfl, rfl, g⟩
theorem diff_play {p q : List Lin} (h : diffN p q = 0) : playX p (diffX p q) = q := by
  obtain ⟨h1, h2, h3, h4, h5⟩ := diff_ok h
  rw [h5]
  refine play_at (by rw [read_edit]; exact diff_asc p q _) (by rw [inX_read, read_edit, h3]; exact diff_bd) h3 fun i hi => ?_
  rw [read_edit, diff_look (by omega)]
  split
  · rename_i l e
    split at e
    · cases e
    · cases e; rfl
  · rename_i e
    split at e
    · assumption
    · cases e
theorem diff_clean {p q : List Lin} (h : diffN p q = 0) : cleanX p (diffX p q) = diffX p q := by
  obtain ⟨h1, h2, h3, h4, h5⟩ := diff_ok h
  rw [h5]
  unfold cleanX
  rw [List.filter_eq_self]
  intro e he
  obtain ⟨⟨k, l⟩, hk, rfl⟩ := List.mem_map.1 he
  obtain ⟨i, hi, rfl, rfl, h6⟩ := diff_mem.1 hk
  unfold sameE
  simp only [Int.toNat_natCast, decide_eq_false h6, Bool.not_false]
/-- What differs after a patch is the patch without what changes nothing. -/
theorem diff_done {p : List Lin} {x : List Edt} (h : errX p x = 0) : diffE p (playX p x) (playX p x).length = readE (cleanX p x) := by
  obtain ⟨h1, h2, h3⟩ := errX_ok h
  have ha := validX_asc h2
  refine asc_mem (diff_asc _ _ _) (clean_asc ha) fun k l => ?_
  rw [diff_mem, clean_mem, playX_len]
  constructor
  · rintro ⟨i, hi, rfl, rfl, h5⟩
    have h6 := play_look x p i tL.dflt ha h3 hi
    cases e : lookE (readE x) i with
    | none => rw [e] at h6; exact absurd h6.symm h5
    | some l =>
      rw [e] at h6
      rw [h6] at h5 ⊢
      exact ⟨look_in e, by rw [Int.toNat_natCast]; exact h5⟩
  · rintro ⟨h4, h5⟩
    have h6 := inX_read.1 h3 _ h4
    obtain ⟨i, rfl⟩ := nat_of h6.1
    have hi : i < p.length := by have := h6.2; simp at this; omega
    have h7 := play_look x p i tL.dflt ha h3 hi
    rw [(look_mem ha).2 h4] at h7
    rw [Int.toNat_natCast] at h5
    exact ⟨i, hi, rfl, h7.symm, by rw [h7]; exact h5⟩
/-! ### Then, Merge -/
theorem then_look {x y : List Edt} (hx : validX x = 0) (hy : validX y = 0) (k : Int) : lookE (thenE x y) k = thnF x y k :=
  (look_merge (validX_asc hx) (validX_asc hy)).trans (by unfold thnF; cases lookE (readE y) k <;> rfl)
theorem then_asc {x y : List Edt} (hx : validX x = 0) : Asc (thenE x y) := merge_asc (validX_asc hx)
theorem thnF_or {x y : List Edt} {k : Int} {l : Lin} (h : thnF x y k = some l) : lookE (readE x) k = some l ∨ lookE (readE y) k = some l := by
  unfold thnF at h
  split at h
  · rename_i m e; cases h; exact .inr e
  · exact .inl h
theorem then_bd {x y : List Edt} {n : Nat} (hx : validX x = 0) (hy : validX y = 0) (ix : inX n x) (iy : inX n y) : ∀ e ∈ thenE x y, 0 ≤ e.1 ∧ e.1 < (n : Int) := by
  rintro ⟨k, l⟩ h
  rw [← look_mem (then_asc hx), then_look hx hy] at h
  rcases thnF_or h with h | h
  · exact look_inX ix h
  · exact look_inX iy h
theorem valid_in {x : List Edt} (h : validX x = 0) : inX 8 x := fun e he => (validX_ok h).2 e he
theorem then_tab {x y : List Edt} (hx : validX x = 0) (hy : validX y = 0) : tabE (thnF x y) 8 = thenE x y :=
  tabE_eq (then_asc hx) (then_bd hx hy (valid_in hx) (valid_in hy)) fun k => (then_look hx hy k).symm
theorem then_valid {x y : List Edt} (hx : validX x = 0) (hy : validX y = 0) (h4 : (thenE x y).length ≤ 4) : validX (editE (thenE x y)) = 0 := by
  refine validX_edit h4 (then_asc hx) fun k l hk => ?_
  refine ⟨then_bd hx hy (valid_in hx) (valid_in hy) _ hk, ?_⟩
  rw [← look_mem (then_asc hx), then_look hx hy] at hk
  rcases thnF_or hk with h | h
  · exact look_line (validX_line4 hx) h
  · exact look_line (validX_line4 hy) h
theorem then_err {p : List Lin} {x y : List Edt} (hp : validP p = 0) (hx : validX x = 0) (hy : validX y = 0) (ix : inX p.length x) (iy : inX p.length y) (h4 : (thenE x y).length ≤ 4) : errX p (editE (thenE x y)) = 0 :=
  errX_mk hp (then_valid hx hy h4) (by rw [inX_read, read_edit]; exact then_bd hx hy ix iy)
theorem then_play {p : List Lin} {x y : List Edt} (hx : validX x = 0) (hy : validX y = 0) (ix : inX p.length x) (iy : inX p.length y) : playX p (editE (thenE x y)) = playX (playX p x) y := by
  refine ext_play (by rw [read_edit]; exact then_asc hx) (validX_asc hy) (by rw [inX_read, read_edit]; exact then_bd hx hy ix iy) (by rw [playX_len]; exact iy) (by rw [playX_len]) fun i hi => ?_
  rw [read_edit, then_look hx hy, play_look x p i _ (validX_asc hx) ix hi]
  unfold thnF
  cases lookE (readE y) i with
  | some l => rfl
  | none => rfl
theorem clash_iff {x y : List Edt} (hx : validX x = 0) (hy : validX y = 0) : y.any (clashE (readE x)) = true ↔ ∃ k l m, lookE (readE x) k = some l ∧ lookE (readE y) k = some m ∧ l ≠ m := by
  rw [List.any_eq_true]
  constructor
  · rintro ⟨⟨k, m, ⟨⟩⟩, he, h⟩
    unfold clashE at h
    cases e : lookE (readE x) k with
    | none => simp only [e] at h; cases h
    | some l =>
      simp only [e] at h
      exact ⟨k, l, m, e, (look_mem (validX_asc hy)).2 (read_mem.2 he), by simpa using h⟩
  · rintro ⟨k, l, m, h1, h2, h3⟩
    refine ⟨(k, m, ()), read_mem.1 (look_in h2), ?_⟩
    unfold clashE
    simp only [h1]
    simpa using h3
theorem clash_comm {x y : List Edt} (hx : validX x = 0) (hy : validX y = 0) : x.any (clashE (readE y)) = y.any (clashE (readE x)) := by
  rw [Bool.eq_iff_iff, clash_iff hx hy, clash_iff hy hx]
  constructor
  · rintro ⟨k, l, m, h1, h2, h3⟩; exact ⟨k, m, l, h2, h1, fun e => h3 e.symm⟩
  · rintro ⟨k, l, m, h1, h2, h3⟩; exact ⟨k, m, l, h2, h1, fun e => h3 e.symm⟩
theorem then_comm {x y : List Edt} (hx : validX x = 0) (hy : validX y = 0) (h : y.any (clashE (readE x)) = false) : thenE y x = thenE x y := by
  refine asc_ext (then_asc hy) (then_asc hx) fun k => ?_
  rw [then_look hy hx, then_look hx hy]
  unfold thnF
  cases e1 : lookE (readE x) k with
  | none =>
    cases e2 : lookE (readE y) k with
    | none => rfl
    | some m => rfl
  | some l =>
    cases e2 : lookE (readE y) k with
    | none => rfl
    | some m =>
      by_cases g : l = m
      · rw [g]
      · have := (clash_iff hx hy).2 ⟨k, l, m, e1, e2, g⟩
        rw [h] at this; cases this
theorem merge_ok {x y : List Edt} (h : mergeN x y = 0) : validX x = 0 ∧ validX y = 0 ∧ y.any (clashE (readE x)) = false ∧ (thenE x y).length ≤ 4 ∧ mergeX x y = editE (thenE x y) := by
  unfold mergeN at h
  split at h
  · rename_i h0
    split at h
    · cases h
    · rename_i h1
      unfold limN at h
      split at h
      · cases h
      · rename_i h2
        refine ⟨(bothX_ok h0).1, (bothX_ok h0).2, by simpa using h1, by omega, ?_⟩
        unfold mergeX limE
        rw [if_pos h0, if_neg h1, if_neg h2]
  · rename_i h0; exact absurd h h0
theorem both_of {x y : List Edt} (hx : validX x = 0) (hy : validX y = 0) : bothX x y = 0 := by unfold bothX; rw [if_pos hx]; exact hy
theorem limN_ok {E : List (Int × Lin)} (h : E.length ≤ 4) : limN E = 0 ∧ limE E = editE E := by
  unfold limN limE
  rw [if_neg (by omega), if_neg (by omega)]; exact ⟨rfl, rfl⟩
theorem limN_iff {E : List (Int × Lin)} (h : limN E = 0) : E.length ≤ 4 := by
  unfold limN at h
  split at h
  · cases h
  · omega
/-! ### Keep -/
theorem touch_ok {x : List Edt} (h : validX x = 0) : okPl (x.map (·.1)) (x.map (·.1)).length = true := by
  have h1 := validX_ok h
  have ha := asc_map.1 (validX_asc h)
  rw [List.length_map]
  have g : ∀ j, j < x.length → (x.map (·.1)).getD j 0 = (x.getD j tEd.dflt).1 := by
    intro j hj
    rw [List.getD_eq_getElem?_getD, List.getElem?_map, List.getElem?_eq_getElem hj, List.getD_eq_getElem?_getD, List.getElem?_eq_getElem hj]; rfl
  have key : ∀ i, i ≤ x.length → okPl (x.map (·.1)) i = true := by
    intro i
    induction i with
    | zero => intro _; rfl
    | succ i ih =>
      intro hi
      rw [okPl, ih (by omega), Bool.true_and, g i (by omega)]
      have hm := h1.2 _ (mem_getD (d := tEd.dflt) (show i < x.length by omega))
      rw [decide_eq_false (show ¬ (x.getD i tEd.dflt).1 < 0 by omega), decide_eq_false (show ¬ (x.getD i tEd.dflt).1 ≥ 8 by omega)]
      by_cases hz : i > 0
      · rw [g (i - 1) (by omega)]
        have := List.pairwise_iff_getElem.1 ha (i - 1) i (by omega) (by omega) (by omega)
        have g1 : x.getD (i - 1) tEd.dflt = x[i - 1] := by rw [List.getD_eq_getElem?_getD, List.getElem?_eq_getElem (by omega)]; rfl
        have g2 : x.getD i tEd.dflt = x[i] := by rw [List.getD_eq_getElem?_getD, List.getElem?_eq_getElem (by omega)]; rfl
        rw [g1, g2, decide_eq_false (show ¬ (x[i - 1]).1 ≥ (x[i]).1 by omega)]
        simp
      · rw [decide_eq_false hz]; rfl
  exact key _ (Nat.le_refl _)
theorem keep_all {x : List Edt} (h : validX x = 0) : keepN x (x.map (·.1)) = 0 ∧ keepX x (x.map (·.1)) = x := by
  have e : keepN x (x.map (·.1)) = 0 := by unfold keepN; rw [if_pos h, touch_ok h]; rfl
  refine ⟨e, ?_⟩
  unfold keepX
  rw [if_pos e, List.filter_eq_self]
  intro a ha
  exact decide_eq_true (List.mem_map_of_mem ha)
/-! ### Three -/
theorem threeL_comm (b a c : List Lin) (i : Nat) : threeL b c a i = threeL b a c i := by
  unfold threeL
  generalize a.getD i tL.dflt = u, b.getD i tL.dflt = v, c.getD i tL.dflt = w
  by_cases h1 : w = v
  · by_cases h2 : u = w
    · simp [h1, h2]
    · subst h1; simp [h2]
  · by_cases h2 : u = w
    · subst h2; simp
    · have h2' : ¬ w = u := fun e => h2 e.symm
      by_cases h3 : u = v
      · subst h3; simp [h1, h2]
      · simp [h1, h2, h2', h3]
theorem threeC_comm (b a c : List Lin) (i : Nat) : threeC b c a i = threeC b a c i := by
  unfold threeC
  generalize a.getD i tL.dflt = u, b.getD i tL.dflt = v, c.getD i tL.dflt = w
  have e : (w = u) = (u = w) := propext eq_comm
  simp only [e]
  cases decide (w = v) <;> cases decide (u = w) <;> cases decide (u = v) <;> rfl
theorem threeP_comm (b a c : List Lin) (n : Nat) : threeP b c a n = threeP b a c n := by
  unfold threeP; exact List.map_congr_left fun i _ => threeL_comm b a c i
theorem threeI_comm (b a c : List Lin) (n : Nat) : threeI b c a n = threeI b a c n := by
  unfold threeI
  congr 1
  exact List.filter_congr fun i _ => threeC_comm b a c i
theorem threeP_base {b a : List Lin} (h : a.length = b.length) : threeP b a b b.length = a := by
  refine ext_getD tL.dflt (by rw [threeP_len, h]) fun i hi => ?_
  rw [threeP_len] at hi
  unfold threeP
  rw [List.getD_eq_getElem?_getD, List.getElem?_map, List.getElem?_range hi]
  show threeL b a b i = _
  unfold threeL
  rw [if_pos (.inl rfl)]
theorem threeI_base (b a : List Lin) (n : Nat) : threeI b a b n = [] := by
  unfold threeI threeC
  simp
theorem three_ok {b a c : List Lin} (h : threeN b a c = 0) : validP b = 0 ∧ validP a = 0 ∧ validP c = 0 ∧ a.length = b.length ∧ c.length = b.length := by
  unfold threeN at h
  split at h
  · rename_i h0
    split at h
    · rename_i h1
      unfold err3 at h0
      split at h0
      · split at h0
        · exact ⟨by assumption, by assumption, h0, h1.1, h1.2⟩
        · rename_i g; exact absurd h0 g
      · rename_i g; exact absurd h0 g
    · cases h
  · rename_i h0; exact absurd h h0
theorem three_mk {b a c : List Lin} (h1 : validP b = 0) (h2 : validP a = 0) (h3 : validP c = 0) (h4 : a.length = b.length) (h5 : c.length = b.length) : threeN b a c = 0 := by
  have e : err3 b a c = 0 := by unfold err3; rw [if_pos h1, if_pos h2]; exact h3
  unfold threeN
  rw [if_pos e, if_pos ⟨h4, h5⟩]
end Go.Tk
/- Layer 7: the history as one patch; StorySquashes. -/
set_option linter.unusedSimpArgs false
set_option linter.unusedVariables false
set_option linter.unnecessarySimpa false
namespace Go.Tk
open Go Go.RowKit
instance instEdt : DecidableEq Edt := @instDecidableEqProd Int (Lin × Unit) inferInstance (@instDecidableEqProd Lin Unit inferInstance inferInstance)
theorem eqL (a b : Lin) : T.eqB tL a b = decide (a = b) := by rw [Bool.eq_iff_iff, eqB_iff rfl, decide_eq_true_eq]
def idleTo (p : List Lin) (h : List (List Edt)) : Nat → List Int
  | 0 => []
  | n + 1 => idleTo p h n ++ if playH p (h.take n) = playH p (h.take (n + 1)) then [(n : Int)] else []
theorem idleTo_len (p : List Lin) (h : List (List Edt)) : ∀ n, (idleTo p h n).length ≤ n
  | 0 => Nat.le_refl _
  | n + 1 => by
    unfold idleTo
    rw [List.length_append]
    have := idleTo_len p h n
    split <;> simp <;> omega
abbrev cDiffR : Con := { A := (.cons (.sl tL) (.cons (.sl tL) .nil)), R := (.cons (.osl tEd) (.cons .int .nil)), pre := fun x => True, F := fun x => (diffX x.1 x.2.1, diffN x.1 x.2.1, ()) }
def cDiffR_0 (Λ1 : Int → (List Edt) → Prop) (p : (List Lin)) (q : (List Lin)) (y0 : (List Edt)) (y1 : Int) : Prop :=
  True ∧ (if ((validP p) != (0 : Int)) = true then ((validP p) = y1 ∧ ([] : List Edt) = y0) else (True ∧ (if ((validP q) != (0 : Int)) = true then ((validP q) = y1 ∧ ([] : List Edt) = y0) else (if ((List.length p : Int) != (List.length q : Int)) = true then ((9 : Int) = y1 ∧ ([] : List Edt) = y0) else Λ1 (0 : Int) ([] : List Edt)))))
def cDiffR_1 (Λ1 : Int → (List Edt) → Prop) (p : (List Lin)) (q : (List Lin)) (y0 : (List Edt)) (y1 : Int)  (i_1 : Int) (out_1 : (List Edt)) : Prop :=
  if (decide (i_1 < (List.length p : Int))) = true then (idx i_1 (List.length p : Int) ∧ (idx i_1 (List.length q : Int) ∧ (if (!(T.eqB tL (List.getD p (Int.toNat i_1) tL.dflt) (List.getD q (Int.toNat i_1) tL.dflt))) = true then (idx i_1 (List.length q : Int) ∧ (List.length out_1 + List.length [(i_1, (List.getD q (Int.toNat i_1) tL.dflt), ())] ≤ 4294967296 ∧ (inI (i_1 + (1 : Int)) ∧ Λ1 (i_1 + (1 : Int)) (out_1 ++ [(i_1, (List.getD q (Int.toNat i_1) tL.dflt), ())])))) else (inI (i_1 + (1 : Int)) ∧ Λ1 (i_1 + (1 : Int)) out_1)))) else (if (decide ((List.length out_1 : Int) > (4 : Int))) = true then ((3 : Int) = y1 ∧ ([] : List Edt) = y0) else ((0 : Int) = y1 ∧ out_1 = y0))
theorem cDiffR_law (h : ∀ (p : (List Lin)) (q : (List Lin)), cDiffR.A.wf (p, q, ()) → ∀ (Λ1 : Int → (List Edt) → Prop), (∀ (i_1 : Int) (out_1 : (List Edt)), cDiffR_1 Λ1 p q (diffX p q) (diffN p q) i_1 out_1 → Λ1 i_1 out_1) → cDiffR_0 Λ1 p q (diffX p q) (diffN p q)) : ConOK Go.Proofs.Try.prog 92 cDiffR := by
  refine lawL (Γ := [(77, cValPR)]) (Θ := Th) (n := 52) [([1, 1, 1, 1, 1, 1, 1, 0, 1, 0], ⟨[(0, false), (1, false), (7, true), (8, true)], [(7, true)]⟩)] ⟨cValPR_ok, trivial⟩ (by kernel_rfl) th_ok mix_ok Go.Proofs.Try.func92 (by kernel_rfl) ?_
  intro x hw hp Λ hC
  have h0 := h x.1 x.2.1 hw (fun i_1 out_1 => Λ [1, 1, 1, 1, 1, 1, 1, 0, 1, 0] ([(0, .d false (.sl tL) x.1), (1, .d false (.sl tL) x.2.1), (7, .own 7 0), (8, .d true .int i_1)], [(7, .sl true tEd out_1)])) (fun i_1 out_1 hb => hC [1, 1, 1, 1, 1, 1, 1, 0, 1, 0] ([(0, .d false (.sl tL) x.1), (1, .d false (.sl tL) x.2.1), (7, .own 7 0), (8, .d true .int i_1)], [(7, .sl true tEd out_1)]) (Eq.mpr (by kernel_rfl) hb))
  exact Eq.mpr (by kernel_rfl) h0
theorem cDiffR_ok : ConOK Go.Proofs.Try.prog 92 cDiffR := by
  refine cDiffR_law ?_
  intro p q hw Λ1 h1
  unfold cDiffR_0
  refine ⟨trivial, ?_⟩
  unfold diffN diffX errPQ
  by_cases g1 : validP p = 0
  · rw [if_neg (by simp [g1]), if_pos g1]
    refine ⟨trivial, ?_⟩
    by_cases g2 : validP q = 0
    · rw [if_neg (by simp [g2]), if_pos g2, if_pos g2]
      have h8 := (validP_ok g1).1
      by_cases g3 : p.length = q.length
      · rw [if_neg (by simp [g3])]
        refine upto (n := p.length) (Q := fun i => Λ1 (i : Int) (editE (diffE p q i))) ?_ ?_ 0 (Nat.zero_le _)
        · apply h1; unfold cDiffR_1
          rw [if_neg (by simp)]
          unfold diffN diffX errPQ limN limE
          rw [if_pos g1, if_pos g2, if_pos g2, if_pos g3, if_pos g3, edit_len, ← g3]
          by_cases g4 : (diffE p q p.length).length > 4
          · rw [if_pos (by simp; omega), if_pos g4, if_pos g4]; exact ⟨rfl, rfl⟩
          · rw [if_neg (by simp; omega), if_neg g4, if_neg g4]; exact ⟨rfl, rfl⟩
        · intro i hi ih
          have hdl := diffE_len p q i
          rw [diffE_succ] at ih
          apply h1; unfold cDiffR_1
          rw [if_pos (by simpa using hi), Int.toNat_natCast, eqL]
          refine ⟨idx_nat hi, idx_nat (by omega), ?_⟩
          by_cases g4 : p.getD i tL.dflt = q.getD i tL.dflt
          · rw [if_pos g4] at ih
            rw [if_neg (by rw [decide_eq_true g4]; simp)]
            exact ⟨by unfold inI; omega, ih⟩
          · rw [if_neg g4, edit_app] at ih
            rw [if_pos (by rw [decide_eq_false g4]; rfl)]
            refine ⟨idx_nat (by omega), ?_, by unfold inI; omega, ih⟩
            rw [edit_len]; simp only [List.length_cons, List.length_nil]; omega
      · rw [if_pos (by simp; omega), if_neg g3, if_neg g3]; exact ⟨rfl, rfl⟩
    · rw [if_pos (by simpa using g2), if_neg g2, if_neg g2]; exact ⟨rfl, rfl⟩
  · rw [if_pos (by simpa using g1), if_neg g1, if_neg g1, if_neg g1]; exact ⟨rfl, rfl⟩
abbrev cEqualL : Con := { A := (.cons (.sl tL) (.cons (.sl tL) .nil)), R := (.cons .bool .nil), pre := fun x => x.1.length ≤ 1000000, F := fun x => (decide (x.1 = x.2.1), ()) }
def cEqualL_0 (Λ1 : Int → Prop) (s1 : (List Lin)) (s2 : (List Lin)) (y0 : Bool) : Prop :=
  if ((List.length s1 : Int) != (List.length s2 : Int)) = true then (false = y0 ∧ True) else Λ1 (0 : Int)
def cEqualL_1 (Λ1 : Int → Prop) (s1 : (List Lin)) (s2 : (List Lin)) (y0 : Bool)  (t13_1 : Int) : Prop :=
  if (decide (t13_1 < (List.length s1 : Int))) = true then (idx t13_1 (List.length s1 : Int) ∧ (idx t13_1 (List.length s2 : Int) ∧ (if (!(T.eqB tL (List.getD s1 (Int.toNat t13_1) tL.dflt) (List.getD s2 (Int.toNat t13_1) tL.dflt))) = true then (false = y0 ∧ True) else (inI (t13_1 + (1 : Int)) ∧ Λ1 (t13_1 + (1 : Int)))))) else (true = y0 ∧ True)
theorem cEqualL_law (h : ∀ (s1 : (List Lin)) (s2 : (List Lin)), cEqualL.A.wf (s1, s2, ()) → (s1.length ≤ 1000000) → ∀ (Λ1 : Int → Prop), (∀ (t13_1 : Int), cEqualL_1 Λ1 s1 s2 (decide (s1 = s2)) t13_1 → Λ1 t13_1) → cEqualL_0 Λ1 s1 s2 (decide (s1 = s2))) : ConOK Go.Proofs.Try.prog 93 cEqualL := by
  refine lawL (Γ := []) (Θ := Th) (n := 26) [([1, 1, 0, 1, 0], ⟨[(0, false), (1, false), (12, true), (13, true)], []⟩)] trivial (by kernel_rfl) th_ok mix_ok Go.Proofs.Try.func93 (by kernel_rfl) ?_
  intro x hw hp Λ hC
  have h0 := h x.1 x.2.1 hw hp (fun t13_1 => Λ [1, 1, 0, 1, 0] ([(0, .d false (.sl tL) x.1), (1, .d false (.sl tL) x.2.1), (12, .d true .int (List.length x.1 : Int)), (13, .d true .int t13_1)], [])) (fun t13_1 hb => hC [1, 1, 0, 1, 0] ([(0, .d false (.sl tL) x.1), (1, .d false (.sl tL) x.2.1), (12, .d true .int (List.length x.1 : Int)), (13, .d true .int t13_1)], []) (Eq.mpr (by kernel_rfl) hb))
  exact Eq.mpr (by kernel_rfl) h0
theorem cEqualL_ok : ConOK Go.Proofs.Try.prog 93 cEqualL := by
  refine cEqualL_law ?_
  intro s1 s2 hw hp Λ1 h1
  unfold cEqualL_0
  by_cases hl : s1.length = s2.length
  · rw [if_neg (by simp [hl])]
    refine upto (n := s1.length) (Q := fun i => s1.take i = s2.take i → Λ1 i) ?_ ?_ 0 (Nat.zero_le _) rfl
    · intro ha
      rw [List.take_length, List.take_of_length_le (by omega)] at ha
      apply h1; unfold cEqualL_1; rw [if_neg (by simp)]
      exact ⟨by simp [ha], trivial⟩
    · intro i hi ih ha
      apply h1; unfold cEqualL_1; rw [if_pos (by simpa using hi), Int.toNat_natCast]
      refine ⟨idx_nat hi, idx_nat (by omega), ?_⟩
      have heq := eqB_iff (t := tL) (x := List.getD s1 i tL.dflt) (y := List.getD s2 i tL.dflt) rfl
      by_cases hv : List.getD s1 i tL.dflt = List.getD s2 i tL.dflt
      · rw [if_neg (by rw [heq.2 hv]; simp)]
        exact ⟨inI_succ hi (by omega), ih (take_eq_next tL.dflt hi hl ha hv)⟩
      · rw [if_pos (by
          cases hq : T.eqB tL (List.getD s1 i tL.dflt) (List.getD s2 i tL.dflt)
          · rfl
          · exact absurd (heq.1 hq) hv)]
        exact ⟨by simp [ne_at tL.dflt hv], trivial⟩
  · rw [if_pos (by simp; omega)]
    exact ⟨by simp; exact fun e => hl (by rw [e]), trivial⟩
abbrev cSquash : Con := { A := (.cons (.sl tL) (.cons (.sl (.sl tEd)) .nil)), R := (.cons (.osl tEd) (.cons .int .nil)), pre := fun x => True, F := fun x => ((if err7 x.1 x.2.1 = 0 then diffX x.1 (playH x.1 x.2.1) else []), (if err7 x.1 x.2.1 = 0 then diffN x.1 (playH x.1 x.2.1) else err7 x.1 x.2.1), ()) }
def cSquash_0  (p : (List Lin)) (h : (List (List Edt))) (y0 : (List Edt)) (y1 : Int) : Prop :=
  True ∧ (if ((err7 p h) != (0 : Int)) = true then ((err7 p h) = y1 ∧ ([] : List Edt) = y0) else ((okH p.length h ∧ p.length ≤ 8) ∧ (True ∧ ((diffN p (playH p h)) = y1 ∧ (diffX p (playH p h)) = y0))))
theorem cSquash_law (h : ∀ (p : (List Lin)) (h : (List (List Edt))), cSquash.A.wf (p, h, ()) → cSquash_0  p h (if err7 p h = 0 then diffX p (playH p h) else []) (if err7 p h = 0 then diffN p (playH p h) else err7 p h)) : ConOK Go.Proofs.Try.prog 53 cSquash := by
  refine lawL (Γ := [(91, cDiff4), (64, cPlay0), (32, cVal7)]) (Θ := Th) (n := 20) [] ⟨cDiff4_ok, cPlay0_ok, cVal7_ok, trivial⟩ (by kernel_rfl) th_ok mix_ok Go.Proofs.Try.func53 (by kernel_rfl) ?_
  intro x hw hp Λ hC
  have h0 := h x.1 x.2.1 hw  
  exact Eq.mpr (by kernel_rfl) h0
theorem cSquash_ok : ConOK Go.Proofs.Try.prog 53 cSquash := by
  refine cSquash_law ?_
  intro p h hw
  unfold cSquash_0
  refine ⟨trivial, ?_⟩
  by_cases e : err7 p h = 0
  · obtain ⟨e1, e2, e3, e4⟩ := err7_ok e
    have h8 := (validP_ok e1).1
    rw [if_neg (by simp [e]), if_pos e, if_pos e]
    exact ⟨⟨e3, h8⟩, trivial, rfl, rfl⟩
  · rw [if_pos (by simpa using e), if_neg e, if_neg e]
    exact ⟨rfl, rfl⟩
abbrev cSquashR : Con := { A := (.cons (.sl tL) (.cons (.sl (.sl tEd)) .nil)), R := (.cons (.osl tEd) (.cons .int .nil)), pre := fun x => True, F := fun x => ((if err7 x.1 x.2.1 = 0 then diffX x.1 (playH x.1 x.2.1) else []), (if err7 x.1 x.2.1 = 0 then diffN x.1 (playH x.1 x.2.1) else err7 x.1 x.2.1), ()) }
def cSquashR_0  (p : (List Lin)) (h : (List (List Edt))) (y0 : (List Edt)) (y1 : Int) : Prop :=
  True ∧ (if ((err7 p h) != (0 : Int)) = true then ((err7 p h) = y1 ∧ ([] : List Edt) = y0) else (True ∧ ((diffN p ((if err7 p h = 0 then playH p h else []))) = y1 ∧ (diffX p ((if err7 p h = 0 then playH p h else []))) = y0)))
theorem cSquashR_law (h : ∀ (p : (List Lin)) (h : (List (List Edt))), cSquashR.A.wf (p, h, ()) → cSquashR_0  p h (if err7 p h = 0 then diffX p (playH p h) else []) (if err7 p h = 0 then diffN p (playH p h) else err7 p h)) : ConOK Go.Proofs.Try.prog 54 cSquashR := by
  refine lawL (Γ := [(92, cDiffR), (29, cPlayR)]) (Θ := Th) (n := 22) [] ⟨cDiffR_ok, cPlayR_ok, trivial⟩ (by kernel_rfl) th_ok mix_ok Go.Proofs.Try.func54 (by kernel_rfl) ?_
  intro x hw hp Λ hC
  have h0 := h x.1 x.2.1 hw  
  exact Eq.mpr (by kernel_rfl) h0
theorem cSquashR_ok : ConOK Go.Proofs.Try.prog 54 cSquashR := by
  refine cSquashR_law ?_
  intro p h hw
  unfold cSquashR_0
  refine ⟨trivial, ?_⟩
  by_cases e : err7 p h = 0
  · rw [if_neg (by simp [e]), if_pos e, if_pos e, if_pos e]
    exact ⟨trivial, rfl, rfl⟩
  · rw [if_pos (by simpa using e), if_neg e, if_neg e]
    exact ⟨rfl, rfl⟩
abbrev cIdle : Con := { A := (.cons (.sl tL) (.cons (.sl (.sl tEd)) .nil)), R := (.cons (.osl .int) (.cons .int .nil)), pre := fun x => True, F := fun x => ((if err7 x.1 x.2.1 = 0 then idleTo x.1 x.2.1 x.2.1.length else []), err7 x.1 x.2.1, ()) }
def cIdle_0 (Λ1 : Int → (List Int) → Prop) (p : (List Lin)) (h : (List (List Edt))) (y0 : (List Int)) (y1 : Int) : Prop :=
  True ∧ (if ((err7 p h) != (0 : Int)) = true then ((err7 p h) = y1 ∧ ([] : List Int) = y0) else Λ1 (0 : Int) ([] : List Int))
def cIdle_1 (Λ1 : Int → (List Int) → Prop) (p : (List Lin)) (h : (List (List Edt))) (y0 : (List Int)) (y1 : Int)  (t17_1 : Int) (out_1 : (List Int)) : Prop :=
  if (decide (t17_1 < (List.length h : Int))) = true then ((0 ≤ t17_1 ∧ t17_1 ≤ (h.length : Int)) ∧ ((okH p.length (h.take (Int.toNat t17_1)) ∧ p.length ≤ 8) ∧ (inI (t17_1 + (1 : Int)) ∧ ((0 ≤ (t17_1 + (1 : Int)) ∧ (t17_1 + (1 : Int)) ≤ (h.length : Int)) ∧ ((okH p.length (h.take (Int.toNat (t17_1 + (1 : Int)))) ∧ p.length ≤ 8) ∧ ((playH p (h.take (Int.toNat t17_1))).length ≤ 1000000 ∧ (if (decide ((playH p (h.take (Int.toNat t17_1))) = (playH p (h.take (Int.toNat (t17_1 + (1 : Int))))))) = true then (List.length out_1 + List.length [t17_1] ≤ 4294967296 ∧ (inI (t17_1 + (1 : Int)) ∧ Λ1 (t17_1 + (1 : Int)) (out_1 ++ [t17_1]))) else (inI (t17_1 + (1 : Int)) ∧ Λ1 (t17_1 + (1 : Int)) out_1)))))))) else ((0 : Int) = y1 ∧ out_1 = y0)
theorem cIdle_law (h : ∀ (p : (List Lin)) (h : (List (List Edt))), cIdle.A.wf (p, h, ()) → ∀ (Λ1 : Int → (List Int) → Prop), (∀ (t17_1 : Int) (out_1 : (List Int)), cIdle_1 Λ1 p h (if err7 p h = 0 then idleTo p h h.length else []) (err7 p h) t17_1 out_1 → Λ1 t17_1 out_1) → cIdle_0 Λ1 p h (if err7 p h = 0 then idleTo p h h.length else []) (err7 p h)) : ConOK Go.Proofs.Try.prog 55 cIdle := by
  refine lawL (Γ := [(93, cEqualL), (72, cFirst), (64, cPlay0), (32, cVal7)]) (Θ := Th) (n := 38) [([1, 1, 1, 0, 1, 0], ⟨[(0, false), (1, false), (7, true), (16, true), (17, true)], [(7, true)]⟩)] ⟨cEqualL_ok, cFirst_ok, cPlay0_ok, cVal7_ok, trivial⟩ (by kernel_rfl) th_ok mix_ok Go.Proofs.Try.func55 (by kernel_rfl) ?_
  intro x hw hp Λ hC
  have h0 := h x.1 x.2.1 hw (fun t17_1 out_1 => Λ [1, 1, 1, 0, 1, 0] ([(0, .d false (.sl tL) x.1), (1, .d false (.sl (.sl tEd)) x.2.1), (7, .own 7 0), (16, .d true .int (List.length x.2.1 : Int)), (17, .d true .int t17_1)], [(7, .sl true .int out_1)])) (fun t17_1 out_1 hb => hC [1, 1, 1, 0, 1, 0] ([(0, .d false (.sl tL) x.1), (1, .d false (.sl (.sl tEd)) x.2.1), (7, .own 7 0), (16, .d true .int (List.length x.2.1 : Int)), (17, .d true .int t17_1)], [(7, .sl true .int out_1)]) (Eq.mpr (by kernel_rfl) hb))
  exact Eq.mpr (by kernel_rfl) h0
theorem cIdle_ok : ConOK Go.Proofs.Try.prog 55 cIdle := by
  refine cIdle_law ?_
  intro p h hw Λ1 h1
  unfold cIdle_0
  refine ⟨trivial, ?_⟩
  by_cases e : err7 p h = 0
  · obtain ⟨e1, e2, e3, e4⟩ := err7_ok e
    have h8 := (validP_ok e1).1
    rw [if_neg (by simp [e])]
    refine upto (n := h.length) (Q := fun i => Λ1 (i : Int) (idleTo p h i)) ?_ ?_ 0 (Nat.zero_le _)
    · apply h1; unfold cIdle_1
      rw [if_neg (by simp), if_pos e]
      exact ⟨e.symm, rfl⟩
    · intro i hi ih
      have hle := idleTo_len p h i
      rw [idleTo] at ih
      apply h1; unfold cIdle_1
      have e5 : ((i : Int) + 1).toNat = i + 1 := by omega
      rw [if_pos (by simpa using hi), Int.toNat_natCast, e5]
      have ok : ∀ n, okH p.length (h.take n) := fun n x hx => e3 x (List.mem_of_mem_take hx)
      refine ⟨⟨by omega, by omega⟩, ⟨ok _, h8⟩, by unfold inI; omega, ⟨by omega, by omega⟩, ⟨ok _, h8⟩, by rw [playH_len]; omega, ?_⟩
      by_cases g : playH p (h.take i) = playH p (h.take (i + 1))
      · rw [if_pos g] at ih
        rw [if_pos (decide_eq_true g)]
        exact ⟨by simp only [List.length_cons, List.length_nil]; omega, by unfold inI; omega, ih⟩
      · rw [if_neg g, List.append_nil] at ih
        rw [if_neg (by rw [decide_eq_false g]; simp)]
        exact ⟨by unfold inI; omega, ih⟩
  · rw [if_pos (by simpa using e), if_neg e]
    exact ⟨rfl, rfl⟩
abbrev cIdleR : Con := { A := (.cons (.sl tL) (.cons (.sl (.sl tEd)) .nil)), R := (.cons (.osl .int) (.cons .int .nil)), pre := fun x => True, F := fun x => ((if err7 x.1 x.2.1 = 0 then idleTo x.1 x.2.1 x.2.1.length else []), err7 x.1 x.2.1, ()) }
def cIdleR_0 (Λ1 : Int → (List Int) → Prop) (p : (List Lin)) (h : (List (List Edt))) (y0 : (List Int)) (y1 : Int) : Prop :=
  True ∧ (if ((err7 p h) != (0 : Int)) = true then ((err7 p h) = y1 ∧ ([] : List Int) = y0) else Λ1 (0 : Int) ([] : List Int))
def cIdleR_1 (Λ1 : Int → (List Int) → Prop) (p : (List Lin)) (h : (List (List Edt))) (y0 : (List Int)) (y1 : Int)  (n_1 : Int) (out_1 : (List Int)) : Prop :=
  if (decide (n_1 < (List.length h : Int))) = true then (n_1 ≤ 100 ∧ ((∃ k', (upI (Int.toNat n_1)) = upI k' ∧ k' ≤ h.length ∧ okH p.length h ∧ p.length ≤ 8) ∧ (inI (n_1 + (1 : Int)) ∧ ((n_1 + (1 : Int)) ≤ 100 ∧ ((∃ k', (upI (Int.toNat (n_1 + (1 : Int)))) = upI k' ∧ k' ≤ h.length ∧ okH p.length h ∧ p.length ≤ 8) ∧ ((playH p (h.take (upI (Int.toNat n_1)).length)).length ≤ 1000000 ∧ (if (decide ((playH p (h.take (upI (Int.toNat n_1)).length)) = (playH p (h.take (upI (Int.toNat (n_1 + (1 : Int)))).length)))) = true then (List.length out_1 + List.length [n_1] ≤ 4294967296 ∧ (inI (n_1 + (1 : Int)) ∧ Λ1 (n_1 + (1 : Int)) (out_1 ++ [n_1]))) else (inI (n_1 + (1 : Int)) ∧ Λ1 (n_1 + (1 : Int)) out_1)))))))) else ((0 : Int) = y1 ∧ out_1 = y0)
theorem cIdleR_law (h : ∀ (p : (List Lin)) (h : (List (List Edt))), cIdleR.A.wf (p, h, ()) → ∀ (Λ1 : Int → (List Int) → Prop), (∀ (n_1 : Int) (out_1 : (List Int)), cIdleR_1 Λ1 p h (if err7 p h = 0 then idleTo p h h.length else []) (err7 p h) n_1 out_1 → Λ1 n_1 out_1) → cIdleR_0 Λ1 p h (if err7 p h = 0 then idleTo p h h.length else []) (err7 p h)) : ConOK Go.Proofs.Try.prog 56 cIdleR := by
  refine lawL (Γ := [(70, cFirstR), (66, cPlayR0), (22, cSameL4), (33, cVal7R)]) (Θ := Th) (n := 38) [([1, 1, 1, 1, 0, 1, 0], ⟨[(0, false), (1, false), (7, true), (8, true)], [(7, true)]⟩)] ⟨cFirstR_ok, cPlayR0_ok, cSameL4_ok, cVal7R_ok, trivial⟩ (by kernel_rfl) th_ok mix_ok Go.Proofs.Try.func56 (by kernel_rfl) ?_
  intro x hw hp Λ hC
  have h0 := h x.1 x.2.1 hw (fun n_1 out_1 => Λ [1, 1, 1, 1, 0, 1, 0] ([(0, .d false (.sl tL) x.1), (1, .d false (.sl (.sl tEd)) x.2.1), (7, .own 7 0), (8, .d true .int n_1)], [(7, .sl true .int out_1)])) (fun n_1 out_1 hb => hC [1, 1, 1, 1, 0, 1, 0] ([(0, .d false (.sl tL) x.1), (1, .d false (.sl (.sl tEd)) x.2.1), (7, .own 7 0), (8, .d true .int n_1)], [(7, .sl true .int out_1)]) (Eq.mpr (by kernel_rfl) hb))
  exact Eq.mpr (by kernel_rfl) h0
theorem cIdleR_ok : ConOK Go.Proofs.Try.prog 56 cIdleR := by
  refine cIdleR_law ?_
  intro p h hw Λ1 h1
  unfold cIdleR_0
  refine ⟨trivial, ?_⟩
  by_cases e : err7 p h = 0
  · obtain ⟨e1, e2, e3, e4⟩ := err7_ok e
    have h8 := (validP_ok e1).1
    rw [if_neg (by simp [e])]
    refine upto (n := h.length) (Q := fun i => Λ1 (i : Int) (idleTo p h i)) ?_ ?_ 0 (Nat.zero_le _)
    · apply h1; unfold cIdleR_1
      rw [if_neg (by simp), if_pos e]
      exact ⟨e.symm, rfl⟩
    · intro i hi ih
      have hle := idleTo_len p h i
      rw [idleTo] at ih
      apply h1; unfold cIdleR_1
      have e5 : ((i : Int) + 1).toNat = i + 1 := by omega
      rw [if_pos (by simpa using hi), Int.toNat_natCast, e5, upI_len, upI_len]
      refine ⟨by omega, ⟨i, rfl, by omega, e3, h8⟩, by unfold inI; omega, by omega, ⟨i + 1, rfl, by omega, e3, h8⟩, by rw [playH_len]; omega, ?_⟩
      by_cases g : playH p (h.take i) = playH p (h.take (i + 1))
      · rw [if_pos g] at ih
        rw [if_pos (decide_eq_true g)]
        exact ⟨by simp only [List.length_cons, List.length_nil]; omega, by unfold inI; omega, ih⟩
      · rw [if_neg g, List.append_nil] at ih
        rw [if_neg (by rw [decide_eq_false g]; simp)]
        exact ⟨by unfold inI; omega, ih⟩
  · rw [if_pos (by simpa using e), if_neg e]
    exact ⟨rfl, rfl⟩
abbrev cSameR : Con := { A := (.cons (.sl tEd) (.cons (.sl tEd) .nil)), R := (.cons .bool .nil), pre := fun x => x.1.length ≤ 1000000, F := fun x => (decide (x.1 = x.2.1), ()) }
def cSameR_0 (Λ1 : Int → Prop) (x : (List Edt)) (y_ : (List Edt)) (y0 : Bool) : Prop :=
  if ((List.length x : Int) != (List.length y_ : Int)) = true then (false = y0 ∧ True) else Λ1 (0 : Int)
def cSameR_1 (Λ1 : Int → Prop) (x : (List Edt)) (y_ : (List Edt)) (y0 : Bool)  (i_1 : Int) : Prop :=
  if (decide (i_1 < (List.length x : Int))) = true then (idx i_1 (List.length x : Int) ∧ (idx i_1 (List.length y_ : Int) ∧ (if (!(T.eqB tEd (List.getD x (Int.toNat i_1) tEd.dflt) (List.getD y_ (Int.toNat i_1) tEd.dflt))) = true then (false = y0 ∧ True) else (inI (i_1 + (1 : Int)) ∧ Λ1 (i_1 + (1 : Int)))))) else (true = y0 ∧ True)
theorem cSameR_law (h : ∀ (x : (List Edt)) (y_ : (List Edt)), cSameR.A.wf (x, y_, ()) → (x.length ≤ 1000000) → ∀ (Λ1 : Int → Prop), (∀ (i_1 : Int), cSameR_1 Λ1 x y_ (decide (x = y_)) i_1 → Λ1 i_1) → cSameR_0 Λ1 x y_ (decide (x = y_))) : ConOK Go.Proofs.Try.prog 57 cSameR := by
  refine lawL (Γ := []) (Θ := Th) (n := 26) [([1, 1, 0, 1, 0], ⟨[(0, false), (1, false), (5, true)], []⟩)] trivial (by kernel_rfl) th_ok mix_ok Go.Proofs.Try.func57 (by kernel_rfl) ?_
  intro x hw hp Λ hC
  have h0 := h x.1 x.2.1 hw hp (fun i_1 => Λ [1, 1, 0, 1, 0] ([(0, .d false (.sl tEd) x.1), (1, .d false (.sl tEd) x.2.1), (5, .d true .int i_1)], [])) (fun i_1 hb => hC [1, 1, 0, 1, 0] ([(0, .d false (.sl tEd) x.1), (1, .d false (.sl tEd) x.2.1), (5, .d true .int i_1)], []) (Eq.mpr (by kernel_rfl) hb))
  exact Eq.mpr (by kernel_rfl) h0
theorem cSameR_ok : ConOK Go.Proofs.Try.prog 57 cSameR := by
  refine cSameR_law ?_
  intro x y_ hw hp Λ1 h1
  unfold cSameR_0
  by_cases hl : x.length = y_.length
  · rw [if_neg (by simp [hl])]
    refine upto (n := x.length) (Q := fun i => x.take i = y_.take i → Λ1 i) ?_ ?_ 0 (Nat.zero_le _) rfl
    · intro ha
      rw [List.take_length, List.take_of_length_le (by omega)] at ha
      apply h1; unfold cSameR_1; rw [if_neg (by simp)]
      exact ⟨by simp [ha], trivial⟩
    · intro i hi ih ha
      apply h1; unfold cSameR_1; rw [if_pos (by simpa using hi), Int.toNat_natCast]
      refine ⟨idx_nat hi, idx_nat (by omega), ?_⟩
      have heq := eqB_iff (t := tEd) (x := List.getD x i tEd.dflt) (y := List.getD y_ i tEd.dflt) rfl
      by_cases hv : List.getD x i tEd.dflt = List.getD y_ i tEd.dflt
      · rw [if_neg (by rw [heq.2 hv]; simp)]
        exact ⟨inI_succ hi (by omega), ih (take_eq_next tEd.dflt hi hl ha hv)⟩
      · rw [if_pos (by
          cases hq : T.eqB tEd (List.getD x i tEd.dflt) (List.getD y_ i tEd.dflt)
          · rfl
          · exact absurd (heq.1 hq) hv)]
        exact ⟨by simp [ne_at tEd.dflt hv], trivial⟩
  · rw [if_pos (by simp; omega)]
    exact ⟨by simp; exact fun e => hl (by rw [e]), trivial⟩
theorem diffX_len7 (p q : List Lin) : (diffX p q).length ≤ 4 := by
  have lim : ∀ E : List (Int × Lin), (limE E).length ≤ 4 := fun E => by
    unfold limE
    split
    · simp
    · rw [edit_len]; omega
  unfold diffX
  split
  · split
    · exact lim _
    · simp
  · simp
abbrev cStorySquashes : Con := { A := (.cons (.sl tL) (.cons (.sl (.sl tEd)) .nil)), R := (.cons .bool .nil), pre := fun x => True, F := fun x => (true, ()) }
def cStorySquashes_0  (p : (List Lin)) (h : (List (List Edt))) (y0 : Bool) : Prop :=
  True ∧ (if (decide (∃ x' ∈ h, 50 < x'.length) || decide (100 < p.length) || decide (50 < h.length)) = true then (True ∧ (true = y0 ∧ True)) else (True ∧ (True ∧ (True ∧ (True ∧ (((if err7 p h = 0 then diffX p (playH p h) else [])).length ≤ 1000000 ∧ (if (decide (((if err7 p h = 0 then diffX p (playH p h) else [])) = ((if err7 p h = 0 then diffX p (playH p h) else [])))) = true then (True ∧ (if (bif true then (((if err7 p h = 0 then diffN p (playH p h) else err7 p h)) == ((if err7 p h = 0 then diffN p (playH p h) else err7 p h))) else false) = true then (((if err7 p h = 0 then idleTo p h h.length else [])).length ≤ 1000000 ∧ (True ∧ (if (bif true then (decide (((if err7 p h = 0 then idleTo p h h.length else [])) = ((if err7 p h = 0 then idleTo p h h.length else [])))) else false) = true then (True ∧ (if (bif true then ((err7 p h) == (err7 p h)) else false) = true then (True ∧ (True ∧ ((bif true then true else false) = y0 ∧ True))) else (false = false ∧ (false = y0 ∧ True)))) else (false = false ∧ (false = false ∧ (false = y0 ∧ True)))))) else (false = false ∧ (false = false ∧ (false = false ∧ (false = y0 ∧ True)))))) else (false = false ∧ (false = false ∧ (false = false ∧ (false = false ∧ (false = y0 ∧ True))))))))))))
theorem cStorySquashes_law (h : ∀ (p : (List Lin)) (h : (List (List Edt))), cStorySquashes.A.wf (p, h, ()) → cStorySquashes_0  p h true) : ConOK Go.Proofs.Try.prog 14 cStorySquashes := by
  refine lawL (Γ := [(55, cIdle), (56, cIdleR), (15, cLong7), (23, cSameInts4), (57, cSameR), (16, cSane7), (53, cSquash), (54, cSquashR)]) (Θ := Th) (n := 62) [] ⟨cIdle_ok, cIdleR_ok, cLong7_ok, cSameInts4_ok, cSameR_ok, cSane7_ok, cSquash_ok, cSquashR_ok, trivial⟩ (by kernel_rfl) th_ok mix_ok Go.Proofs.Try.func14 (by kernel_rfl) ?_
  intro x hw hp Λ hC
  have h0 := h x.1 x.2.1 hw  
  exact Eq.mpr (by kernel_rfl) h0
theorem cStorySquashes_ok : ConOK Go.Proofs.Try.prog 14 cStorySquashes := by
  refine cStorySquashes_law ?_
  intro p h hw
  unfold cStorySquashes_0
  refine ⟨trivial, ?_⟩
  cases c : (decide (∃ x' ∈ h, 50 < x'.length) || decide (100 < p.length) || decide (50 < h.length))
  · have hd := diffX_len7 p (playH p h)
    have hi := idleTo_len p h h.length
    by_cases e : err7 p h = 0
    · obtain ⟨e1, e2, e3, e4⟩ := err7_ok e
      have f1 : (diffX p (playH p h)).length ≤ 1000000 := by omega
      have f2 : (idleTo p h h.length).length ≤ 1000000 := by omega
      simp [e, f1, f2]
    · simp [e]
  · rw [if_pos (by rfl)]; exact ⟨trivial, rfl, trivial⟩
end Go.Tk
