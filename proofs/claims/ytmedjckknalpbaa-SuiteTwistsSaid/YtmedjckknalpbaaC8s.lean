/- suite.Best: the order with the smallest wait. -/
import Derived.Test.YtmedjckknalpbaaC8r
import Derived.Laws.NewBlocks
import Derived.Laws.Alloc2
import Derived.Laws.EntriesVeiled
set_option linter.unusedSimpArgs false
set_option linter.unusedVariables false
set_option linter.unnecessarySimpa false
set_option maxRecDepth 10000
set_option maxHeartbeats 4000000
namespace Go.Tk
open Go Go.RowKit
attribute [local go_sem ↓] Go.wp_at_zero Go.wp_at_succ
theorem arr31 (x : Array Value) (h : x.size = 31) : ∃ x0 x1 x2 x3 x4 x5 x6 x7 x8 x9 x10 x11 x12 x13 x14 x15 x16 x17 x18 x19 x20 x21 x22 x23 x24 x25 x26 x27 x28 x29 x30 : Value, x = #[x0, x1, x2, x3, x4, x5, x6, x7, x8, x9, x10, x11, x12, x13, x14, x15, x16, x17, x18, x19, x20, x21, x22, x23, x24, x25, x26, x27, x28, x29, x30] := by
  obtain ⟨l⟩ := x
  match l, h with
  | [x0, x1, x2, x3, x4, x5, x6, x7, x8, x9, x10, x11, x12, x13, x14, x15, x16, x17, x18, x19, x20, x21, x22, x23, x24, x25, x26, x27, x28, x29, x30], _ => exact ⟨_, _, _, _, _, _, _, _, _, _, _, _, _, _, _, _, _, _, _, _, _, _, _, _, _, _, _, _, _, _, _, rfl⟩
theorem wait_bd {t : Ste} (ht : okT t) {o : List Int} (ho : o.length ≤ 8) : 0 ≤ waitL t o ∧ waitL t o ≤ 90 := by
  have h := sum_bound (l := openL t) (f := waitG t o) (a := 0) (b := 9) fun g _ => by
    have := idxF_bound (fun r => hits t r g.toNat) o
    unfold waitG
    omega
  have h2 := openL_len t
  have h3 := ht.2.1
  unfold waitL
  omega

theorem best_post {P : Program} {w W : World} {t : Ste} {l : List Int} {n : Int} {v : Value} (hb : Below w.heap.size w W) (hl : (if validT t = 0 then (bestT t).1 else []) = l) (hn : (if validT t = 0 then (bestT t).2 else 0) = n) (hi : inI n) (h : (reps P (.sl .int)).c W (fun b => w.heap.size ≤ b) l [v]) :
    ∃ rs, Ending.returned (.tuple #[v, .int .i64 n, .int .i64 (validT t)]) = .returned (mkRes rs) ∧ ∃ x, (reps P (T.int.sl.cons (T.int.cons (T.int.cons T.nil)))).v W (fun b => w.heap.size ≤ b ∧ ¬b ∈ x) (if validT t = 0 then (bestT t).1 else [], if validT t = 0 then (bestT t).2 else 0, validT t, ()) rs x ∧ x.Nodup ∧ (∀ b ∈ x, w.heap.size ≤ b) ∧ Below w.heap.size w W := by
  rw [hl, hn]
  exact ⟨[v, .int .i64 n, .int .i64 (validT t)], rfl, [], ⟨_, _, [], [], rfl, rfl, ⟨rfl, [v], rfl, c_mono (.sl .int) h fun b _ hb => ⟨hb, by simp⟩⟩, _, _, [], [], rfl, rfl, ⟨rfl, [.int .i64 n], rfl, rfl, hi⟩, _, _, [], [], rfl, rfl, ⟨rfl, [.int .i64 (validT t)], rfl, rfl, validT_in t⟩, rfl, rfl⟩, by simp, by simp, hb⟩
abbrev cBest : Con := { A := (.cons (.sl (.sl .int)) .nil), R := (.cons (.sl .int) (.cons .int (.cons .int .nil))), pre := fun x => True, F := fun x => ((if validT x.1 = 0 then (bestT x.1).1 else []), (if validT x.1 = 0 then (bestT x.1).2 else 0), validT x.1, ()) }
theorem cBest_ok : ConOK Go.Proofs.Try.prog 43 cBest := by
  refine ConOK.f ?_ rfl
  rintro w S ⟨t, ⟨⟩⟩ vs hv _
  change Ste at t
  obtain ⟨v, vs', b1, b2, rfl, e2, h1, h2⟩ := hv
  obtain ⟨rfl, _⟩ : vs' = [] ∧ _ := h2
  obtain ⟨_, cs, rfl, hc⟩ := h1
  obtain ⟨sv, rfl, hsv⟩ : ∃ sv, cs = [sv] ∧ _ := hc
  have hc : (reps Go.Proofs.Try.prog tSte).c w S t [sv] := ⟨sv, rfl, hsv⟩
  obtain ⟨sa, sc, esv⟩ : ∃ ao c, sv = .slice ao t.length c := by
    obtain ⟨ao, c, e, _, h, _⟩ := hsv
    exact ⟨ao, c, e⟩
  clear hsv
  subst esv
  show Calls _ _ #[.slice sa t.length sc] w _
  obtain ⟨w2, hw2⟩ : ∃ w2, w.alloc (.cells #[.slice sa t.length sc] 22) = w2 := ⟨_, rfl⟩
  have hb2 : Below w.heap.size w w2 := by rw [← hw2]; exact (Below.refl _ w).alloc (Nat.le_refl _) _
  have hs2 : w2.heap.size = w.heap.size + 1 := by rw [← hw2]; simp
  have k2 : w2.heap[w.heap.size]? = some (.cells #[.slice sa t.length sc] 22 (0, 0)) := by
    rw [← hw2]; exact heap_alloc_new w _
  obtain ⟨ct2, _⟩ := cell_row0 k2
  have hkc : ∀ {w' : World}, Below w.heap.size w w' → (reps Go.Proofs.Try.prog tSte).c w' S t [.slice sa t.length sc] := fun hb => c_keep tSte hc ⟨hb.size, fun b hb' _ => hb.block b hb'.lt⟩ fun b _ h => h
  have hval := val_call (hkc hb2)
  go_enter Go.Proofs.Try.func43, Go.Proofs.Try.ntmps43
  refine (wpIn_wide (n := 0)).1 ?_
  show Code.wpIn (Fw none) 0 _ _ _ _ _
  refine wpIn_seq (wl_region rfl ?_)
  simp [wl, go_sem, Exit.then, hw2]
  refine wpIn_seq (wpIn_seq (wl_region rfl ?_))
  simp [wl, go_sem, ct2]
  refine hval.mono ?_
  rintro e w3 ⟨rfl, hb3⟩
  simp [wl, go_sem, Exit.then]
  refine wpIn_seq (wl_region rfl ?_)
  simp [wl, go_sem, Exit.then]
  have k3 : w3.heap[w.heap.size]? = some (.cells #[.slice sa t.length sc] 22 (0, 0)) := (hb3.block _ (by omega)).trans k2
  have hb03 : Below w.heap.size w w3 := hb2.trans (hb3.mono hb2.size)
  by_cases h0 : validT t = 0
  · refine wpIn_cond_false (by simp [Act.eval, h0]) (wpIn_skip ?_)
    simp [Exit.then]
    have ht := validT_ok.1 h0
    have h8 := ht.1
    obtain ⟨ct3, _⟩ := cell_row0 k3
    have lt3 := lt_of_row k3
    have hnl : (nums t.length).length ≤ 100 := by rw [nums_len]; omega
    have hk : Cok Go.Proofs.Try.prog ⟨[(67, cAll8), (88, cWait)], Th, 31, noX⟩ := cok_of ⟨cAll8_ok, cWait_ok, trivial⟩ (by kernel_rfl) th_ok
    refine wpIn_seq (region_draw_wp (B := { n := w3.heap.size, S := fun _ => True, j := some dJ, kv := fun t' => if t' = 1 then some (.pointer (some ⟨w.heap.size, 0, none⟩)) else none }) (w0 := w3) (Φ := fun st => st.env 6 = .ptr 6 0 [] ∧ st.env 7 = .ptr 7 0 [] ∧ st.env 1 = .ept false tSte t ∧ st.loc 6 = some (0, .box true tInts (nums t.length)) ∧ st.loc 7 = some (0, .box true .int (waitL t (nums t.length))))
      (st := mkSt ([(1, .ept false tSte t)], [])) hk mix_ok ?_ (fun o ho d hd => ?_) (by kernel_rfl) (by kernel_rfl) ?_ ?_)
    · have hdS : ∀ b, dS { n := w3.heap.size, S := fun _ => True, j := some dJ, kv := fun t' => if t' = 1 then some (.pointer (some ⟨w.heap.size, 0, none⟩)) else none } (fun _ => gh undef none) (mkLoc []) false b := fun b => ⟨⟨fun e => (by cases e), .inr trivial⟩, fun k g l hk => (by cases hk), fun h => h⟩
      refine ⟨⟨fun _ => gh undef none, ⟨fun _ => Below.refl _ _, Nat.le_refl _, fun k g l hk => (by cases hk), fun k k' g g' l l' b hk => (by cases hk), ⟨fun b h => (by rcases h with h | h <;> exact h.elim), fun k g l b hk => (by cases hk)⟩, Nat.zero_le _⟩, fun t' => ?_⟩, rfl, ⟨Marks.nil _ _, fun _ => rfl⟩, fun t' u h => ?_⟩
      rotate_left
      · simp only at h
        split at h
        · rename_i e
          subst e
          cases h
          rfl
        · cases h
      by_cases e : t' = 1
      · subst e
        refine ⟨w.heap.size, 0, [.slice sa t.length sc], rfl, hdS _, lt3, ?_, c_mono tSte (hkc hb03) fun b _ _ => hdS b⟩
        intro j u hj
        cases j with
        | zero =>
          simp at hj
          subst hj
          exact ct3
        | succ j => simp at hj
      · have : (mkSt ([(1, .ept false tSte t)], [])).env t' = .any := by
          show (match lk [(1, V.ept false tSte t)] t' with | some v => v | none => V.any) = V.any
          have : lk [(1, V.ept false tSte t)] t' = none := by
            simp only [lk]
            split
            · rename_i e2; exact absurd (Nat.eq_of_beq_eq_true e2).symm e
            · rfl
          rw [this]
        rw [this]
        trivial
    · have hd1 : d ≠ 1 := by
        rintro rfl
        revert hd
        revert o
        decide
      show (if d = 1 then _ else none) = none
      rw [if_neg hd1]
    · refine runL_of_runG _ _ _ _ ?_
      have h0 : (0 ≤ (List.length t : Int) ∧ (List.length t : Int) ≤ 4294967296) ∧ ((0 ≤ (List.length t : Int) ∧ (List.length t : Int) ≤ 4294967296) ∧ ((okT t ∧ inT t (nums (List.length t : Int).toNat) ∧ (nums (List.length t : Int).toNat).length ≤ 100) ∧ (true = true ∧ (V.ptr 6 0 [] = V.ptr 6 0 [] ∧ V.ptr 7 0 [] = V.ptr 7 0 [] ∧ V.ept false tSte t = V.ept false tSte t ∧
          some (0, L.box true tInts (nums (List.length t : Int).toNat)) = some (0, L.box true tInts (nums t.length)) ∧ some (0, L.box true .int (waitL t (nums (List.length t : Int).toNat))) = some (0, L.box true .int (waitL t (nums t.length))))))) := by
        rw [Int.toNat_natCast]
        exact ⟨⟨by omega, by omega⟩, ⟨by omega, by omega⟩, ⟨ht, nums_in t, hnl⟩, rfl, rfl, rfl, rfl, rfl, rfl⟩
      exact Eq.mpr (by kernel_rfl) h0
    · rintro st a W ⟨e6, e7, e1, l6, l7⟩ hR
      obtain ⟨G, hm, he⟩ := hR.ex
      have v1 := he 1
      have v6 := he 6
      have v7 := he 7
      rw [e1] at v1
      rw [e6] at v6
      rw [e7] at v7
      have hbW : Below w3.heap.size w3 W := hm.low rfl
      obtain ⟨pb, cur6, eb, gb, _, nb, kb, rb⟩ := hm.loc 6 _ _ l6
      obtain ⟨pl, cur7, el, gl, _, nl, kl, rl⟩ := hm.loc 7 _ _ l7
      have hne : pl ≠ pb := by
        intro e
        have := hm.inj 6 7 _ _ _ _ pb l6 l7 rfl rfl ⟨0, gb⟩ ⟨0, by rw [gl, e]⟩
        omega
      obtain ⟨tm, df⟩ := a
      have hdf : df = [] := hR.nd.2 rfl
      subst hdf
      obtain ⟨x0, x1, x2, x3, x4, x5, x6, x7, x8, x9, x10, x11, x12, x13, x14, x15, x16, x17, x18, x19, x20, x21, x22, x23, x24, x25, x26, x27, x28, x29, x30, rfl⟩ := arr31 tm hR.sz
      obtain rfl : x1 = .pointer (some ⟨w.heap.size, 0, none⟩) := hR.kp 1 _ rfl
      obtain ⟨g6, L6, q6, _, p6⟩ := v6
      rw [l6] at q6
      cases q6
      obtain ⟨b6, o6, r6, s6, _, u6⟩ := p6 rfl
      rw [gb] at r6
      cases r6
      cases s6
      obtain rfl : x6 = .pointer (some ⟨pb, 0, none⟩) := u6
      obtain ⟨g7, L7, q7, _, p7⟩ := v7
      rw [l7] at q7
      cases q7
      obtain ⟨b7, o7, r7, s7, _, u7⟩ := p7 rfl
      rw [gl] at r7
      cases r7
      cases s7
      obtain rfl : x7 = .pointer (some ⟨pl, 0, none⟩) := u7
      obtain ⟨bv, eb6, rb⟩ := rb
      obtain rfl : cur6 = #[bv] := by
        obtain ⟨l⟩ := cur6
        simp at eb6
        rw [eb6]
      obtain ⟨el7, _⟩ := rl
      obtain rfl : cur7 = #[.int .i64 (waitL t (nums t.length))] := by
        obtain ⟨l⟩ := cur7
        simp at el7
        rw [el7]
      have nb : w3.heap.size ≤ pb := nb
      have nl : w3.heap.size ≤ pl := nl
      have hz03 := hb03.size
      have hzW := hbW.size
      have hbest : (reps Go.Proofs.Try.prog tInts).c W (ND w.heap.size pl pb) (nums t.length) [bv] := c_mono tInts ⟨bv, rfl, rb⟩ fun b _ h => ⟨by have : w3.heap.size ≤ b := h.1.1 rfl; omega, fun e => h.2.1 7 0 _ l7 rfl ⟨0, by rw [gl, e]⟩, fun e => h.2.1 6 0 _ l6 rfl ⟨0, by rw [gb, e]⟩⟩
      clear v1 he hm p6 p7 hR rb l6 l7 gb gl e6 e7 e1 hk
      have kt : W.heap[w.heap.size]? = some (.cells #[.slice sa t.length sc] 22 (0, 0)) := (hbW.block _ lt3).trans k3
      obtain ⟨ctW, _⟩ := cell_row0 kt
      have hTW : (reps Go.Proofs.Try.prog tSte).c W S t [.slice sa t.length sc] := hkc (hb03.trans (hbW.mono hb03.size))
      simp only [Exit.then]
      refine wpIn_seq (wl_region rfl ?_)
      simp [wl, go_sem, ctW]
      refine (open_call hTW ht).mono ?_
      rintro e W4 ⟨oa, oc, rfl, hb4⟩
      simp [wl, go_sem, Exit.then]
      have hmf : ∀ (fn : Fn) (first cap : Array Value) (w : World), (Instr.makeFunc fn first cap).run Go.Proofs.Try.prog w = .ok (.func fn first cap) w := fun _ _ _ _ => rfl
      refine wpIn_seq (wl_region rfl ?_)
      simp [wl, go_sem, Exit.then]
      refine wpIn_seq (wl_region rfl ?_)
      simp [wl, go_sem, Exit.then, hmf]
      obtain ⟨W6, hW6⟩ : ∃ W6, (W4.alloc (.cells #[.int .i64 (openL t).length] 3)).alloc (.cells #[growV W4.heap.size w.heap.size pl pb (W4.heap.size + 1)] 71) = W6 := ⟨_, rfl⟩
      have hz4 := hb4.size
      have lpb := lt_of_row kb
      have lpl := lt_of_row kl
      have lpt := lt_of_row kt
      have h46 : Below W4.heap.size W4 W6 := by rw [← hW6]; exact ((Below.refl _ _).alloc (Nat.le_refl _) _).alloc (by simp) _
      have hW46 : Below W.heap.size W W6 := hb4.trans (h46.mono hb4.size)
      have km6 : W6.heap[W4.heap.size]? = some (.cells #[.int .i64 (openL t).length] 3 (0, 0)) := by
        rw [← hW6]
        exact (Below.heap_alloc _ _ _ (by simp)).trans (heap_alloc_new _ _)
      have kg6 : W6.heap[W4.heap.size + 1]? = some (.cells #[growV W4.heap.size w.heap.size pl pb (W4.heap.size + 1)] 71 (0, 0)) := by
        rw [← hW6]
        have := heap_alloc_new (W4.alloc (.cells #[.int .i64 (openL t).length] 3)) (.cells #[growV W4.heap.size w.heap.size pl pb (W4.heap.size + 1)] 71)
        simpa using this
      have hz6 : W6.heap.size = W4.heap.size + 2 := by rw [← hW6]; simp
      have hGW : GrowW el eb W4.heap.size w.heap.size pl pb (W4.heap.size + 1) (openL t).length (.slice sa t.length sc) bv (waitL t (nums t.length)) W6 :=
        ⟨km6, (hW46.block _ lpt).trans kt, (hW46.block _ lpl).trans kl, (hW46.block _ lpb).trans kb, kg6⟩
      obtain ⟨cg6, _⟩ := cell_row0 kg6
      rw [hW6]
      refine wpIn_seq (wl_region rfl ?_)
      simp [wl, go_sem, cg6]
      have hwb := wait_bd ht (o := nums t.length) (by rw [nums_len]; exact h8)
      have hnd : ∀ {b : Nat}, NT pl pb b ∨ True := fun {_} => .inr trivial
      have hT6 : (reps Go.Proofs.Try.prog tSte).c W6 (NT pl pb) t [.slice sa t.length sc] := by
        have hlt : ∀ b, b < w.heap.size → NT pl pb b := fun b hb => ⟨by omega, by omega⟩
        exact c_keep tSte (c_mono (S' := NT pl pb) tSte hc fun b hb _ => hlt b hb) ⟨by omega, fun b hb _ => ((hb03.trans (hbW.mono hb03.size)).trans (hW46.mono (by omega))).block b hb.lt⟩ fun b _ h => h
      have hB6 : (reps Go.Proofs.Try.prog tInts).c W6 (ND w.heap.size pl pb) (nums t.length) [bv] := c_grow2 tInts hbest (grow_below hW46)
      have hg := grow_call (n0 := w.heap.size) (st := (nums t.length, waitL t (nums t.length))) ht (by omega) (by omega) (by omega) (by omega) (by omega) (by omega) hne t.length [] 0 W6 (.slice none 0 0) bv (by omega) (rest_nil_len t) (fun r hr => by cases hr) (by simp) (Int.le_refl _) (by simp) hwb.1 (by show waitL t (nums t.length) ≤ 1000; omega) hGW hT6 nil_rep hB6
      rw [grow_best] at hg
      refine hg.mono ?_
      rintro e W7 ⟨rfl, hgr, bv', hGW7, hB7⟩
      simp [wl, go_sem, Exit.then]
      obtain ⟨cb7, _⟩ := cell_row0 hGW7.b
      obtain ⟨cl7, _⟩ := cell_row0 hGW7.l
      have hw7 : Below w.heap.size w W7 := by
        have h6 : Below w.heap.size w W6 := (hb03.trans (hbW.mono hb03.size)).trans (hW46.mono (by omega))
        exact h6.trans ⟨hgr.os, hgr.tape, hgr.output, hgr.size, fun b hb => hgr.block b (by omega) fun e => by rcases e with e | e <;> omega⟩
      have hin2 : inI (bestT t).2 := by
        have h1 := bestT_least (t := t) (o := nums t.length) (.refl _)
        have h2 := best_pos t t.length []
        have h3 : 0 ≤ (bestT t).2 := h2
        unfold inI; omega
      have hS7 : ∀ w', Below W7.heap.size W7 w' → w'.cell? ⟨pb, 0, none⟩ = some bv' ∧ w'.cell? ⟨pl, 0, none⟩ = some (.int .i64 (bestT t).2) ∧ Below W7.heap.size W7 w' := fun w' hb => ⟨cell_below hb (lt_of_row hGW7.b) cb7, cell_below hb (lt_of_row hGW7.l) cl7, hb⟩
      have hB8 : (reps Go.Proofs.Try.prog tInts).c W7.drew (fun b => w.heap.size ≤ b) (bestT t).1 [bv'] := c_keep tInts (c_mono (S' := fun b => w.heap.size ≤ b) tInts hB7 fun b _ h => h.1) ⟨Nat.le_refl _, fun _ _ _ => rfl⟩ fun _ _ h => h
      have hw8 : Below w.heap.size w W7.drew := hw7.trans (((Below.refl _ _).drew).mono hw7.size)
      have e1 : (if validT t = 0 then (bestT t).1 else []) = (bestT t).1 := if_pos h0
      have e2 : (if validT t = 0 then (bestT t).2 else 0) = (bestT t).2 := if_pos h0
      have hpost := best_post (P := Go.Proofs.Try.prog) hw8 e1 e2 hin2 hB8
      obtain ⟨ba, bc, ebv⟩ : ∃ ao c, bv' = .slice ao (bestT t).1.length c := by
        obtain ⟨u, e, ao, c, e2, _⟩ := hB7
        cases e
        exact ⟨ao, c, e2⟩
      subst ebv
      rw [h0] at hpost
      refine wpIn_seq ((wpIn_wide (n := 0)).2 ?_)
      rw [h0]
      clear h0
      go_region_held3 (fun w' => w'.cell? ⟨pb, 0, none⟩ = some (.slice ba (bestT t).1.length bc) ∧ w'.cell? ⟨pl, 0, none⟩ = some (.int .i64 (bestT t).2) ∧ Below W7.heap.size W7 w') ((refine hS7 _ ?_; first | exact (Below.refl _ _).drew)) (fail)
      simp only [Exit.then]
      refine wpIn_ret ?_
      refine ⟨rfl, .tuple #[.slice ba (bestT t).1.length bc, .int .i64 (bestT t).2, .int .i64 0], ?_, hpost⟩
      simp [results, Go.Proofs.Try.results43, go_sem]
  · refine wpIn_cond_true (by simp [Act.eval, h0]) ?_
    refine wpIn_seq (wl_region rfl ?_)
    simp [wl, go_sem, Exit.then]
    refine wpIn_ret ?_
    simp only [Exit.then]
    have e1 : (if validT t = 0 then (bestT t).1 else []) = [] := if_neg h0
    have e2 : (if validT t = 0 then (bestT t).2 else 0) = 0 := if_neg h0
    refine ⟨rfl, .tuple #[.slice none 0 0, .int .i64 0, .int .i64 (validT t)], ?_, best_post (P := Go.Proofs.Try.prog) hb03 e1 e2 (by unfold inI; omega) nil_rep⟩
    simp [results, Go.Proofs.Try.results43, go_sem]
end Go.Tk
