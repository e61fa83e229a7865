/- Merged: C8N. -/
import Derived.Test.YtmedjckknalpbaaMg4
/- SuiteWithouts, by hand. -/
set_option linter.unusedSimpArgs false
set_option linter.unusedVariables false
set_option linter.unnecessarySimpa false
set_option maxRecDepth 10000
set_option maxHeartbeats 8000000
namespace Go.Tk
open Go Go.RowKit
/-- The temporaries by what they hold. -/
theorem act_gen {P : Program} {F : Fence} {c : Code} {Q : Exit → Act → World → Prop} {a : Act} {w : World} (h : ∀ tm : Array Value, tm.size = a.tmps.size → (∀ i, tm.getD i undef = a.tmps.getD i undef) → Code.wpIn F 0 P c Q ⟨tm, a.defers⟩ w) : Code.wpIn F 0 P c Q a w := h a.tmps rfl fun _ => rfl
theorem arr94 (x : Array Value) (h : x.size = 94) : ∃ x0 x1 x2 x3 x4 x5 x6 x7 x8 x9 x10 x11 x12 x13 x14 x15 x16 x17 x18 x19 x20 x21 x22 x23 x24 x25 x26 x27 x28 x29 x30 x31 x32 x33 x34 x35 x36 x37 x38 x39 x40 x41 x42 x43 x44 x45 x46 x47 x48 x49 x50 x51 x52 x53 x54 x55 x56 x57 x58 x59 x60 x61 x62 x63 x64 x65 x66 x67 x68 x69 x70 x71 x72 x73 x74 x75 x76 x77 x78 x79 x80 x81 x82 x83 x84 x85 x86 x87 x88 x89 x90 x91 x92 x93 : Value, x = #[x0, x1, x2, x3, x4, x5, x6, x7, x8, x9, x10, x11, x12, x13, x14, x15, x16, x17, x18, x19, x20, x21, x22, x23, x24, x25, x26, x27, x28, x29, x30, x31, x32, x33, x34, x35, x36, x37, x38, x39, x40, x41, x42, x43, x44, x45, x46, x47, x48, x49, x50, x51, x52, x53, x54, x55, x56, x57, x58, x59, x60, x61, x62, x63, x64, x65, x66, x67, x68, x69, x70, x71, x72, x73, x74, x75, x76, x77, x78, x79, x80, x81, x82, x83, x84, x85, x86, x87, x88, x89, x90, x91, x92, x93] := by
  obtain ⟨l⟩ := x
  match l, h with
  | x0 :: x1 :: x2 :: x3 :: x4 :: x5 :: x6 :: x7 :: x8 :: x9 :: x10 :: x11 :: x12 :: x13 :: x14 :: x15 :: x16 :: x17 :: x18 :: x19 :: x20 :: x21 :: x22 :: x23 :: x24 :: x25 :: x26 :: x27 :: x28 :: x29 :: x30 :: x31 :: x32 :: x33 :: x34 :: x35 :: x36 :: x37 :: x38 :: x39 :: x40 :: x41 :: x42 :: x43 :: x44 :: x45 :: x46 :: x47 :: x48 :: x49 :: x50 :: x51 :: x52 :: x53 :: x54 :: x55 :: x56 :: x57 :: x58 :: x59 :: x60 :: x61 :: x62 :: x63 :: x64 :: x65 :: x66 :: x67 :: x68 :: x69 :: x70 :: x71 :: x72 :: x73 :: x74 :: x75 :: x76 :: x77 :: x78 :: x79 :: x80 :: x81 :: x82 :: x83 :: x84 :: x85 :: x86 :: x87 :: x88 :: x89 :: x90 :: x91 :: x92 :: x93 :: [], _ => exact ⟨_, _, _, _, _, _, _, _, _, _, _, _, _, _, _, _, _, _, _, _, _, _, _, _, _, _, _, _, _, _, _, _, _, _, _, _, _, _, _, _, _, _, _, _, _, _, _, _, _, _, _, _, _, _, _, _, _, _, _, _, _, _, _, _, _, _, _, _, _, _, _, _, _, _, _, _, _, _, _, _, _, _, _, _, _, _, _, _, _, _, _, _, _, _, rfl⟩
abbrev cWithouts : Con := { A := (.cons (.sl (.sl .int)) (.cons .int .nil)), R := (.cons .bool .nil), pre := fun x => True, F := fun x => (true, ()) }
theorem cWithouts_ok : ConOK Go.Proofs.Try.prog 10 cWithouts := by
  refine ConOK.f ?_ rfl
  rintro w S ⟨t, row, ⟨⟩⟩ vs hv _
  change Ste at t
  change Int at row
  obtain ⟨tv, vs1, b1, b2, rfl, _, ⟨_, xc, ex, hpr⟩, gv, vs2, b3, b4, rfl, _, ⟨_, zc, ez, hoi, hio⟩, rfl, _⟩ := hv
  have hpr0 := hpr
  obtain ⟨tv', exc, hps⟩ := hpr
  subst exc
  subst hoi
  obtain rfl : tv = tv' := ex
  obtain rfl : gv = .int .i64 row := ez
  have hpr : (reps Go.Proofs.Try.prog tSte).c w S t [tv] := hpr0
  obtain ⟨ao, cap, e2, h1, h2, h3⟩ := hps
  have e2 : tv = .slice ao t.length cap := e2
  subst e2
  have keepT : ∀ {W : World}, Below w.heap.size w W → (reps Go.Proofs.Try.prog tSte).c W S t [.slice ao t.length cap] := fun hb => c_keep tSte hpr ⟨hb.size, fun b hb' _ => hb.block b hb'.lt⟩ fun _ _ h => h
  suffices H : ∀ PO : Ending → World → Prop, (∀ W, Below w.heap.size w W → PO (.returned (.bool true)) W) → Calls Go.Proofs.Try.prog 10 #[.slice ao t.length cap, .int .i64 row] w PO from
    H _ fun W hb => ⟨[.bool true], [], rfl, ⟨.bool true, [], [], [], rfl, rfl, ⟨rfl, [.bool true], rfl, rfl⟩, rfl, rfl⟩, by simp, by simp, hb⟩
  intro PO hpost
  refine calls_of_wp Go.Proofs.Try.func10 rfl ?_
  rw [Go.Proofs.Try.ntmps10]
  refine (wpIn_wide (n := 0)).1 ?_
  show Code.wpIn (Fw none) 0 _ _ _ _ _
  refine wpIn_seq (ql_region rfl ?_)
  simp [ql, go_sem, Exit.then]
  refine wpIn_seq (wpIn_seq (ql_region rfl ?_))
  simp [ql, go_sem, Exit.then]
  refine (longS_call hpr).mono ?_
  rintro e W1 ⟨rfl, hb1⟩
  cases hL : longT t
  case true =>
    simp [ql, go_sem, Exit.then]
    refine wpIn_cond_true (by simp [Act.eval]) (wpIn_seq (ql_region rfl ?_))
    simp [ql, go_sem, Exit.then]
    refine saneS_call.mono ?_
    rintro e W2 ⟨rfl, hb2⟩
    simp [ql, go_sem, Exit.then]
    refine wpIn_ret ?_
    exact ⟨rfl, .bool true, by simp [results, Go.Proofs.Try.results10, go_sem], hpost _ (hb1.trans (hb2.mono hb1.size))⟩
  simp [ql, go_sem, Exit.then]
  refine wpIn_cond_false (by simp [Act.eval]) (wpIn_skip ?_)
  simp only [Exit.then]
  have hlong := longT_no hL
  refine act_gen fun tm hsz hg => ?_
  have g0 := hg 0
  have g1 := hg 1
  simp at g0 g1 hsz
  obtain ⟨z0, z1, z2, z3, z4, z5, z6, z7, z8, z9, z10, z11, z12, z13, z14, z15, z16, z17, z18, z19, z20, z21, z22, z23, z24, z25, z26, z27, z28, z29, z30, z31, z32, z33, z34, z35, z36, z37, z38, z39, z40, z41, z42, z43, z44, z45, z46, z47, z48, z49, z50, z51, z52, z53, z54, z55, z56, z57, z58, z59, z60, z61, z62, z63, z64, z65, z66, z67, z68, z69, z70, z71, z72, z73, z74, z75, z76, z77, z78, z79, z80, z81, z82, z83, z84, z85, z86, z87, z88, z89, z90, z91, z92, z93, rfl⟩ := arr94 tm hsz
  simp at g0 g1
  subst g0; subst g1
  clear hg hsz
  refine wpIn_seq (ql_region rfl ?_)
  simp [ql, go_sem, Exit.then]
  refine (copyR_call (keepT hb1) (by have := hlong.1; omega) (fun r hr => by have := hlong.2 r hr; omega)).mono ?_
  rintro e W2 ⟨ov, oob, ovs, rfl, hO, hb2⟩
  have hOd := hO.data
  have hb02 := hb1.trans (hb2.mono hb1.size)
  simp [ql, go_sem, Exit.then]
  refine wpIn_seq (ql_region rfl ?_)
  simp [ql, go_sem, Exit.then]
  have hcall := without_call hOd hio
  refine Calls.mono hcall ?_
  intro e W3 h
  obtain ⟨av, he, hiE, hb3, hW⟩ := h
  subst he
  obtain ⟨wt, hwt⟩ : ∃ wt : Ste, wt = if withE t row = 0 then cutA row.toNat t else [] := ⟨_, rfl⟩
  have hW : ∃ ob vs os, NestW W2.heap.size W3 wt av ob vs os := by
    by_cases g : withE t row = 0
    · rw [if_pos g] at hW hwt
      rw [hwt]; exact hW
    · rw [if_neg g] at hW hwt
      rw [hwt, hW]
      exact ⟨none, [], [], rfl, rfl, .inl ⟨rfl, rfl, rfl⟩, fun j hj => by simp at hj, fun j hj => by simp at hj, fun j k hj => by simp at hj⟩
  obtain ⟨ob, vs, os, hN⟩ := hW
  have hwl : wt.length ≤ 50 := by
    rw [hwt]
    split
    · rename_i g
      have hlt : row.toNat < t.length := by
        unfold withE at g
        split at g
        · split at g
          · omega
          · omega
        · omega
      rw [cutA_len hlt]; have := hlong.1; omega
    · simp
  obtain ⟨va, vc, rfl⟩ : ∃ va vc, av = .slice va wt.length vc := by
    rcases hN.out with ⟨h, h', _⟩ | ⟨b, off, cap, cur, e, _, h, _⟩
    · have : wt.length = 0 := by rw [← hN.lenv, h']; rfl
      exact ⟨none, 0, by rw [h, this]⟩
    · exact ⟨_, _, by rw [h, hN.lenv]⟩
  have s1 := hb1.size
  have s2 := hb2.size
  have s3 := hb3.size
  have hb03 := hb02.trans (hb3.mono hb02.size)
  simp [ql, go_sem, Exit.then]
  refine wpIn_seq (ql_region rfl ?_)
  simp [ql, go_sem, Exit.then]
  have hcall := withR_call (keepT hb03) hio
  refine Calls.mono hcall ?_
  intro e W4 h
  obtain ⟨bv, he, hB, _, hb4⟩ := h
  subst he
  rw [← hwt] at hB
  have hN4 := hN.below hb4
  have hb24 : Below W2.heap.size W2 W4 := hb3.trans (hb4.mono s3)
  have s4 := hb4.size
  simp [ql, go_sem, Exit.then]
  refine wpIn_seq (wpIn_seq (qlg_region ?_))
  simp [qlg, Region.wanted, yielded, go_sem, Exit.then]
  refine (sameS_call hN4.data hB (by omega) (by omega)).mono ?_
  rintro e W5 ⟨rfl, hb5⟩
  have hN5 := hN4.below hb5
  have hb25 := hb24.trans (hb5.mono (by omega))
  have s5 := hb5.size
  simp [qlg, Region.wanted, yielded, go_sem, Exit.then]
  refine wpIn_cond_false (by simp [Act.eval]) (wpIn_skip ?_)
  simp only [Exit.then]
  obtain ⟨I, hI⟩ : ∃ I : Act → World → Prop, I = fun a W => ∃ x2 x3 x4 x7 x8 x9 x10 x11 x12 x13 x14 x15 x16 x17 x18 x19 x20 x21 x22 x23 x24 x25 x26 x27 x28 x29 x30 x31 x32 x33 x34 x35 x36 x37 x38 x39 x40 x41 x42 x43 x44 x45 x46 x47 x48 x49 x50 x51 x52 x53 x54 x55 x56 x57 x58 x59 x60 x61 x62 x63 x64 x65 x66 x67 x68 x69 x70 x71 x72 x73 x74 x75 x76 x77 x78 x79 x80 x81 x82 x83 x84 x85 x86 x87 x88 x89 x90 x91 x92 x93 : Value, a = ⟨#[.slice ao t.length cap, .int .i64 row, x2, x3, x4, ov, .slice va wt.length vc, x7, x8, x9, x10, x11, x12, x13, x14, x15, x16, x17, x18, x19, x20, x21, x22, x23, x24, x25, x26, x27, x28, x29, x30, x31, x32, x33, x34, x35, x36, x37, x38, x39, x40, x41, x42, x43, x44, x45, x46, x47, x48, x49, x50, x51, x52, x53, x54, x55, x56, x57, x58, x59, x60, x61, x62, x63, x64, x65, x66, x67, x68, x69, x70, x71, x72, x73, x74, x75, x76, x77, x78, x79, x80, x81, x82, x83, x84, x85, x86, x87, x88, x89, x90, x91, x92, x93], []⟩ ∧ NestW W2.heap.size W wt (.slice va wt.length vc) ob vs os ∧ Below W2.heap.size W2 W := ⟨_, rfl⟩
  refine wpIn_seq (wpIn_mono (Q := fun e a W => e = .normal ∧ I a W) ?_ ?_)
  · refine wpIn_seq (ql_region rfl ?_)
    simp [ql, go_sem, Exit.then]
    by_cases hE : withE t row = 0
    · have hv : validT t = 0 ∧ 0 ≤ row ∧ row < (t.length : Int) := by
        unfold withE at hE
        split at hE
        · rename_i g
          split at hE
          · rename_i g2; exact ⟨g, g2⟩
          · omega
        · rename_i g; exact absurd hE g
      obtain ⟨hv, hr1, hr2⟩ := hv
      have hok := validT_ok.1 hv
      rw [if_pos hE] at hwt
      have hlt : row.toNat < t.length := by omega
      have hv2 : validT wt = 0 := by rw [hwt]; exact validT_ok.2 (with_ok hok hlt)
      have hle : (openL wt).length ≤ (openL t).length := by rw [hwt]; exact with_open hok hlt
      refine wpIn_cond_true (by simp [Act.eval, hE]) ?_
      refine wpIn_seq (ql_region rfl ?_)
      simp [ql, go_sem, Exit.then]
      refine (openS_call (keepT (hb02.trans (hb25.mono hb02.size))) hv).mono ?_
      rintro e W6 ⟨ao6, c6, rfl, hb6⟩
      have hN6 := hN5.below hb6
      have s6 := hb6.size
      have hb26 := hb25.trans (hb6.mono (by omega))
      simp [ql, go_sem, Exit.then]
      refine wpIn_seq (ql_region rfl ?_)
      simp [ql, go_sem, Exit.then]
      refine (openS_call hN6.data hv2).mono ?_
      rintro e W7 ⟨ao7, c7, rfl, hb7⟩
      have hN7 := hN6.below hb7
      have hb27 := hb26.trans (hb7.mono (by omega))
      simp [ql, go_sem, Exit.then]
      refine wpIn_seq (qlg_region ?_)
      have hle' : ¬ ((openL t).length : Int) < ((openL wt).length : Int) := by omega
      simp [qlg, Region.wanted, yielded, go_sem, Exit.then, hle, hle']
      refine wpIn_cond_false (by simp [Act.eval, hle']; try omega) (wpIn_skip ?_)
      rw [hI]
      exact ⟨rfl, _, _, _, _, _, _, _, _, _, _, _, _, _, _, _, _, _, _, _, _, _, _, _, _, _, _, _, _, _, _, _, _, _, _, _, _, _, _, _, _, _, _, _, _, _, _, _, _, _, _, _, _, _, _, _, _, _, _, _, _, _, _, _, _, _, _, _, _, _, _, _, _, _, _, _, _, _, _, _, _, _, _, _, _, _, _, _, _, _, _, rfl, hN7, hb27⟩
    · refine wpIn_cond_false (by simp [Act.eval, hE]) (wpIn_skip ?_)
      rw [hI]
      exact ⟨rfl, _, _, _, _, _, _, _, _, _, _, _, _, _, _, _, _, _, _, _, _, _, _, _, _, _, _, _, _, _, _, _, _, _, _, _, _, _, _, _, _, _, _, _, _, _, _, _, _, _, _, _, _, _, _, _, _, _, _, _, _, _, _, _, _, _, _, _, _, _, _, _, _, _, _, _, _, _, _, _, _, _, _, _, _, _, _, _, _, _, _, rfl, hN5, hb25⟩
  rintro e a W ⟨rfl, hh⟩
  rw [hI] at hh
  obtain ⟨x2, x3, x4, x7, x8, x9, x10, x11, x12, x13, x14, x15, x16, x17, x18, x19, x20, x21, x22, x23, x24, x25, x26, x27, x28, x29, x30, x31, x32, x33, x34, x35, x36, x37, x38, x39, x40, x41, x42, x43, x44, x45, x46, x47, x48, x49, x50, x51, x52, x53, x54, x55, x56, x57, x58, x59, x60, x61, x62, x63, x64, x65, x66, x67, x68, x69, x70, x71, x72, x73, x74, x75, x76, x77, x78, x79, x80, x81, x82, x83, x84, x85, x86, x87, x88, x89, x90, x91, x92, x93, rfl, hN, hb⟩ := hh
  exact withTail keepT (c_mono tSte hOd fun _ _ _ => trivial) hb02 hlong.1 hwl hpost x2 x3 x4 x7 x8 x9 x10 x11 x12 x13 x14 x15 x16 x17 x18 x19 x20 x21 x22 x23 x24 x25 x26 x27 x28 x29 x30 x31 x32 x33 x34 x35 x36 x37 x38 x39 x40 x41 x42 x43 x44 x45 x46 x47 x48 x49 x50 x51 x52 x53 x54 x55 x56 x57 x58 x59 x60 x61 x62 x63 x64 x65 x66 x67 x68 x69 x70 x71 x72 x73 x74 x75 x76 x77 x78 x79 x80 x81 x82 x83 x84 x85 x86 x87 x88 x89 x90 x91 x92 x93 W hN hb
end Go.Tk
