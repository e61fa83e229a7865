/- suite.Cover: a search that panics with what it has found, and a deferred call that recovers. -/
import Derived.Test.YtmedjckknalpbaaC8d
import Derived.WalkKit
import Derived.Defers
import Derived.Recover
set_option linter.unusedSimpArgs false
set_option linter.unusedVariables false
set_option linter.unnecessarySimpa false
set_option maxRecDepth 10000
namespace Go.Tk
open Go Go.RowKit

theorem cover_idle (p q : Addr) (w : World) :
    CallsD Go.Proofs.Try.prog 76 #[.pointer (some p), .pointer (some q)] .returning w fun e u' w' => e = .returned (.tuple #[]) ∧ u' = .returning ∧ w' = w := by
  refine callsD_of_wpS Go.Proofs.Try.func76 rfl fun c₀ cs hu => ?_
  apply wpS_seq
  apply wpS_region
  simp [wpOpsS, go_sem, recoverD, hu, Go.Proofs.Try.ntmps76, Exit.thenS]
  apply wpS_seq
  apply wpS_region
  simp [wpOpsS, go_sem, Exit.thenS]
  refine wpS_cond (t := false) (by simp [Act.eval, Array.replicate]) ?_
  simp
  refine wpS_of_wp ?_
  go_wp2
  cases c₀
  simp_all [bodyPostS, results, Go.Proofs.Try.results76, Exit.thenS]

theorem run_assert (sv : Value) (w : World) : (Instr.typeAssert (Value.iface 62 (Value.agg #[sv])) 20 62 true).run Go.Proofs.Try.prog w = .ok (.tuple #[.agg #[sv], .bool true]) w := by
  kernel_rfl

theorem heap_setCell_row {W : World} {B : Nat} {v : Value} {t : TypeId} (v' : Value) (h : W.heap[B]? = some (.cells #[v] t (0, 0))) : (W.setCell ⟨B, 0, none⟩ v').heap[B]? = some (.cells #[v'] t (0, 0)) := by
  have := heap_setCell_same W B 0 #[v] t v' h
  simpa using this

theorem cover_catch (b2 b3 : Nat) (sv v2 v3 : Value) (w : World) (h2 : w.heap[b2]? = some (.cells #[v2] 25 (0, 0))) (h3 : w.heap[b3]? = some (.cells #[v3] 26 (0, 0))) (hne : b2 ≠ b3) (hs : ∃ ao n c, sv = .slice ao n c) :
    CallsD Go.Proofs.Try.prog 76 #[.pointer (some ⟨b2, 0, none⟩), .pointer (some ⟨b3, 0, none⟩)] (.panicking [{ v := .iface 62 (.agg #[sv]), recovered := false }]) w fun e u' w' => e = .returned (.tuple #[]) ∧ u' = .panicking [{ v := .iface 62 (.agg #[sv]), recovered := true }] ∧
      w' = ((w.alloc (.cells #[sv] 62)).setCell ⟨b2, 0, none⟩ sv).setCell ⟨b3, 0, none⟩ (.int .i64 0) := by
  obtain ⟨ao, n, c, rfl⟩ := hs
  have ha := run_assert (Value.slice ao n c)
  have hl2 : b2 < w.heap.size := (Array.getElem?_eq_some_iff.1 h2).1
  have hl3 : b3 < w.heap.size := (Array.getElem?_eq_some_iff.1 h3).1
  obtain ⟨W, hW⟩ : ∃ W, w.alloc (.cells #[Value.slice ao n c] 62) = W := ⟨_, rfl⟩
  have k1 : W.heap[w.heap.size]? = some (.cells #[Value.slice ao n c] 62 (0, 0)) := by rw [← hW]; exact heap_alloc_new w _
  have k2 : W.heap[b2]? = some (.cells #[v2] 25 (0, 0)) := by rw [← hW]; exact (Below.heap_alloc _ _ b2 hl2).trans h2
  have k3 : W.heap[b3]? = some (.cells #[v3] 26 (0, 0)) := by rw [← hW]; exact (Below.heap_alloc _ _ b3 hl3).trans h3
  have e1 : (w.alloc (.cells #[Value.slice none 0 0] 62)).setCell ⟨w.heap.size, 0, none⟩ (Value.slice ao n c) = W := by
    rw [← hW, World.setCell_alloc_new]
    simp
  have c1 : W.cell? ⟨w.heap.size, 0, none⟩ = some (Value.slice ao n c) := by simp [World.cell?, k1]
  have c2 : W.cell? ⟨b2, 0, none⟩ = some v2 := by simp [World.cell?, k2]
  have f2 : W.frozen? ⟨b2, 0, none⟩ = false := by simp [World.frozen?, k2]
  have k4 : (W.setCell ⟨b2, 0, none⟩ (Value.slice ao n c)).heap[b3]? = some (.cells #[v3] 26 (0, 0)) := (Below.heap_setCell W _ _ b3 (Ne.symm hne)).trans k3
  have c3 : (W.setCell ⟨b2, 0, none⟩ (Value.slice ao n c)).cell? ⟨b3, 0, none⟩ = some v3 := by simp [World.cell?, k4]
  have f3 : (W.setCell ⟨b2, 0, none⟩ (Value.slice ao n c)).frozen? ⟨b3, 0, none⟩ = false := by simp [World.frozen?, k4]
  rw [hW]
  clear hW k1 k2 k3 k4 h2 h3 hl2 hl3
  refine callsD_of_wpS Go.Proofs.Try.func76 rfl fun c₀ cs hu => ?_
  apply wpS_seq
  apply wpS_region
  simp [wpOpsS, go_sem, recoverD, hu, Go.Proofs.Try.ntmps76, Exit.thenS]
  apply wpS_seq
  apply wpS_region
  simp [wpOpsS, go_sem, Exit.thenS]
  refine wpS_cond (t := true) (by simp [Act.eval, Array.replicate]) ?_
  simp only [if_true]
  apply wpS_seq
  apply wpS_region
  simp [wpOpsS, go_sem, Exit.thenS, ha, e1]
  apply wpS_seq
  apply wpS_seq
  apply wpS_region
  simp [wpOpsS, go_sem, Exit.thenS]
  refine wpS_cond (t := false) (by simp [Act.eval]) ?_
  simp only [if_false, Bool.false_eq_true]
  refine wpS_of_wp (wp_skip ?_)
  simp only [Exit.thenS]
  apply wpS_region
  simp [wpOpsS, go_sem, Exit.thenS, c1, c2, f2, c3, f3]
  cases c₀
  simp_all [bodyPostS, results, Go.Proofs.Try.results76]

/-! ### Regions, one operation after another -/
def wl (P : Program) : List Oper → (Act → World → Prop) → (Exit → Act → World → Prop) → Act → World → Prop
  | [], K, _, a, w => K a w
  | o :: l, K, Q, a, w => o.upon P a (fun a' w' => wl P l K Q a' w') Q ((execOp a.eval o).run P w)

theorem upon_mono {P : Program} {o : Oper} {a : Act} {K K' : Act → World → Prop} {Q : Exit → Act → World → Prop} {r : Result Next} (h : ∀ a w, K a w → K' a w) (hr : o.upon P a K Q r) : o.upon P a K' Q r := by
  cases r with
  | halt x w => cases x <;> exact hr
  | ok x w =>
    cases x <;> simp only [Oper.upon] at hr ⊢
    case value v => exact h _ _ hr
    case skip => exact h _ _ hr
    case defer d => exact h _ _ hr
    case enter f args =>
      refine hr.mono ?_
      intro e w' he
      cases e with
      | returned v => exact h _ _ he
      | panicked c => exact he
      | outgrown => exact he
    case row row args =>
      intro c cs
      obtain ⟨v, w', hv, hs⟩ := hr c cs
      exact ⟨v, w', h _ _ hv, hs⟩

theorem wl_ops {P : Program} {ops : List Oper} {Q : Exit → Act → World → Prop} : ∀ (l : List Oper) (k : Nat) (a : Act) (w : World), (∀ j, l[j]? = ops[k + j]?) → (∀ o ∈ l, o.guard = none) → wl P l (Q .normal) Q a w →
    wpOpsIn (Fw none) 0 P ops.toArray Q (List.range' k l.length) a w
  | [], k, a, w, _, _, h => by
    have h : Q .normal a w := h
    simpa [wpOpsIn] using h
  | o :: l, k, a, w, hl, hg, h => by
    rw [List.length_cons, List.range'_succ, wpOpsIn_cons]
    have ho : ops[k]? = some o := by simpa using (hl 0).symm
    have hl' : ∀ j, l[j]? = ops[k + 1 + j]? := fun j => by have := hl (j + 1); simpa [Nat.add_assoc, Nat.add_comm 1 j] using this
    have hw : Region.wanted o (yielded ops.toArray a.tmps) = true := by unfold Region.wanted; rw [hg o (by simp)]
    unfold wpOpIn
    rw [show ops.toArray[k]? = some o by simpa using ho]
    simp only [hw, if_true]
    refine ⟨fun _ _ => trivial, ?_⟩
    show Oper.uponIn (Fw none) 0 P o a _ Q ((o.semAt none a.eval).run P w)
    rw [Oper.semAt_none]
    exact upon_in (upon_mono (fun a' w' h' => wl_ops l (k + 1) a' w' hl' (fun q hq => hg q (by simp [hq])) h') h)

theorem wl_region {P : Program} {ops : Array Oper} {id : Nat} {Q : Exit → Act → World → Prop} {a : Act} {w : World} (hg : (ops.toList.all fun o => o.guard.isNone) = true) (h : wl P ops.toList (Q .normal) Q a w) : (Code.region id ops false).wpIn (Fw none) 0 P Q a w := by
  refine wpIn_region ?_
  have := wl_ops (P := P) (ops := ops.toList) (Q := Q) ops.toList 0 a w (by simp) (fun o ho => by simpa using List.all_eq_true.1 hg o ho) h
  simpa [List.range_eq_range'] using this

def coverF (t : Ste) (k : Nat) : Option (List Int × Unit) := (List.range k).findSome? fun m => srch t m [] 0
def coverS (t : Ste) : List Int := match coverF t (t.length + 1) with
  | some y => y.1
  | none => []
theorem coverF_succ (t : Ste) (k : Nat) : coverF t (k + 1) = match coverF t k with | some y => some y | none => srch t k [] 0 := by
  unfold coverF
  rw [List.range_succ, List.findSome?_append]
  cases (List.range k).findSome? fun m => srch t m [] 0 <;> simp
theorem coverF_le {t : Ste} {k n : Nat} {y : List Int × Unit} (h : coverF t k = some y) (hk : k ≤ n) : coverF t n = some y := by
  induction n with
  | zero =>
    have e : k = 0 := by omega
    rw [e] at h; exact h
  | succ n ih =>
    by_cases e : k = n + 1
    · rw [← e]; exact h
    · rw [coverF_succ, ih (by omega)]

theorem loop_up {F : Fence} {P : Program} {c : Code} {Q : Exit → Act → World → Prop} {n : Nat} (A : Nat → Act → World → Prop) (last : ∀ a W, A n a W → c.wpIn F 0 P (Exit.then (fun _ _ => False) Q) a W)
    (step : ∀ m a W, m < n → A m a W → c.wpIn F 0 P (Exit.then (A (m + 1)) Q) a W) : ∀ m, m ≤ n → ∀ a W, A m a W → LoopAt F P c Q a W := by
  refine upto ?_ ?_
  · intro a W h
    refine loopAt_round (wpIn_mono (last a W h) fun e a' W' he => ?_)
    cases e <;> first | exact he.elim | exact he
  · intro m hm ih a W h
    refine loopAt_round (wpIn_mono (step m a W hm h) fun e a' W' he => ?_)
    cases e <;> first | exact ih _ _ he | exact he

theorem validT_in (t : Ste) : inI (validT t) := by
  unfold inI validT argErr
  split
  · omega
  · cases t.all (rowOk t) <;> simp

abbrev tSte : T := .sl (.sl .int)
theorem cover_post {P : Program} {w W : World} {t : Ste} {l : List Int} {v : Value} (hb : Below w.heap.size w W) (hl : (if validT t = 0 then coverS t else []) = l) (h : (reps P (.sl .int)).c W (fun b => w.heap.size ≤ b) l [v]) :
    ∃ rs, Ending.returned (.tuple #[v, .int .i64 (validT t)]) = .returned (mkRes rs) ∧ ∃ x, (reps P (T.int.sl.cons (T.int.cons T.nil))).v W (fun b => w.heap.size ≤ b ∧ ¬b ∈ x) (if validT t = 0 then coverS t else [], validT t, ()) rs x ∧ x.Nodup ∧ (∀ b ∈ x, w.heap.size ≤ b) ∧ Below w.heap.size w W := by
  rw [hl]
  exact ⟨[v, .int .i64 (validT t)], rfl, [], ⟨_, _, [], [], rfl, rfl, ⟨rfl, [v], rfl, c_mono (.sl .int) h fun b _ hb => ⟨hb, by simp⟩⟩, _, _, [], [], rfl, rfl, ⟨rfl, [.int .i64 (validT t)], rfl, rfl, validT_in t⟩, rfl, rfl⟩, by simp, by simp, hb⟩
theorem nil_rep {P : Program} {W : World} {S : Nat → Prop} : (reps P (.sl .int)).c W S ([] : List Int) [.slice none 0 0] := ⟨_, rfl, none, 0, rfl, Nat.le_refl _, Nat.zero_le _, .inl rfl⟩
theorem cell_row0 {W : World} {b : Nat} {v : Value} {e : TypeId} (h : W.heap[b]? = some (.cells #[v] e (0, 0))) : W.cell? ⟨b, 0, none⟩ = some v ∧ W.frozen? ⟨b, 0, none⟩ = false := by
  constructor
  · simp [World.cell?, h]
  · simp [World.frozen?, h]
theorem val_call {w : World} {S : Nat → Prop} {t : Ste} {v : Value} (h : (reps Go.Proofs.Try.prog tSte).c w S t [v]) :
    Calls Go.Proofs.Try.prog 35 #[v] w fun e w' => e = .returned (.int .i64 (validT t)) ∧ Below w.heap.size w w' := by
  refine ((cVal8_ok.1 rfl) w S (t, ()) [v] ⟨v, [], [], [], rfl, rfl, ⟨rfl, [v], rfl, h⟩, rfl, rfl⟩ trivial).mono ?_
  rintro e w' ⟨rs, bs, rfl, ⟨u, us, _, _, rfl, _, ⟨_, cs, rfl, rfl, _⟩, rfl, _⟩, _, _, hb⟩
  exact ⟨rfl, hb⟩

theorem search_call {w : World} {n0 : Nat} {S : Nat → Prop} {t : Ste} {v : Value} {m : Nat} (hn : n0 ≤ w.heap.size) (h : (reps Go.Proofs.Try.prog tSte).c w S t [v]) (ht : okT t) (hm : m ≤ t.length) :
    Calls Go.Proofs.Try.prog 77 #[v, .slice none 0 0, .int .i64 0, .int .i64 m] w fun e w' => Below w.heap.size w w' ∧ ((srch t m [] 0 = none ∧ ∃ u, e = .returned u) ∨
      ∃ y sv, srch t m [] 0 = some y ∧ e = .panicked [{ v := .iface 62 (.agg #[sv]), recovered := false }] ∧ (reps Go.Proofs.Try.prog (.sl .int)).c w' (fun b => n0 ≤ b) y.1 [sv]) := by
  have h8 := ht.1
  have hi0 : inI 0 := by unfold inI; omega
  have him : inI (m : Int) := by unfold inI; omega
  have h1 : (reps Go.Proofs.Try.prog (.cons tSte .nil)).v w (fun b => n0 ≤ b ∨ S b) (t, ()) [v] [] := ⟨v, [], [], [], rfl, rfl, ⟨rfl, [v], rfl, c_mono tSte h fun b _ hb => .inr hb⟩, rfl, rfl⟩
  have h2 : (reps Go.Proofs.Try.prog (.cons (.sl .int) (.cons .int (.cons .int .nil)))).v w (fun b => n0 ≤ b) (([] : List Int), (0 : Int), (m : Int), ()) [.slice none 0 0, .int .i64 0, .int .i64 m] [] :=
    ⟨_, _, [], [], rfl, rfl, ⟨rfl, [.slice none 0 0], rfl, _, rfl, none, 0, rfl, Nat.le_refl _, Nat.zero_le _, .inl rfl⟩, _, _, [], [], rfl, rfl, ⟨rfl, [.int .i64 0], rfl, rfl, hi0⟩, _, _, [], [], rfl, rfl, ⟨rfl, [.int .i64 m], rfl, rfl, him⟩, rfl, rfl⟩
  refine ((cSearch_ok (m + 1)).2 w n0 S (t, ()) (([] : List Int), (0 : Int), (m : Int), ()) [v] [.slice none 0 0, .int .i64 0, .int .i64 m] hn h1 h2 ?_).mono ?_
  · show ((m : Int)).toNat < m + 1 ∧ okT t ∧ inT t [] ∧ (0 : Int) ≤ 0 ∧ (0 : Int) ≤ t.length ∧ (0 : Int) ≤ m ∧ (m : Int) ≤ 90 ∧ 0 + ((m : Int)).toNat ≤ 100
    refine ⟨by omega, ht, fun r hr => by simp at hr, by omega, by omega, by omega, by omega, by omega⟩
  · rintro e w' ⟨hb, hres⟩
    refine ⟨hb, ?_⟩
    have e0 : (cSearch (m + 1)).F (t, ()) (([] : List Int), (0 : Int), (m : Int), ()) = srch t m [] 0 := by
      show srch t ((m : Int)).toNat [] ((0 : Int)).toNat = _
      rw [Int.toNat_natCast]; rfl
    rcases hres with ⟨e1, u, rfl⟩ | ⟨y, cs, e1, rfl, hc⟩
    · exact .inl ⟨by rw [← e0]; exact e1, u, rfl⟩
    · obtain ⟨c1, c2, rfl, hc1, rfl⟩ := hc
      obtain ⟨sv, rfl, hsv⟩ := hc1
      exact .inr ⟨y, sv, by rw [← e0]; exact e1, rfl, sv, rfl, hsv⟩

abbrev cCover : Con := { A := (.cons (.sl (.sl .int)) .nil), R := (.cons (.sl .int) (.cons .int .nil)), pre := fun x => True, F := fun x => ((if validT x.1 = 0 then coverS x.1 else []), validT x.1, ()) }
theorem cCover_ok : ConOK Go.Proofs.Try.prog 27 cCover := by
  refine ConOK.f ?_ rfl
  rintro w S ⟨t, ⟨⟩⟩ vs hv _
  change Ste at t
  obtain ⟨v, vs', b1, b2, rfl, e2, h1, h2⟩ := hv
  obtain ⟨rfl, _⟩ : vs' = [] ∧ _ := h2
  obtain ⟨_, cs, rfl, hc⟩ := h1
  obtain ⟨sv, rfl, hsv⟩ : ∃ sv, cs = [sv] ∧ _ := hc
  have hc : (reps Go.Proofs.Try.prog tSte).c w S t [sv] := ⟨sv, rfl, hsv⟩
  have hlen : ∃ ao c, sv = .slice ao t.length c ∧ t.length ≤ 140737488355328 := by
    obtain ⟨ao, c, e, _, h, _⟩ := hsv
    exact ⟨ao, c, e, h⟩
  clear hsv
  have hkc : ∀ {w' : World}, Below w.heap.size w w' → (reps Go.Proofs.Try.prog tSte).c w' S t [sv] := fun hb => c_keep tSte hc ⟨hb.size, fun b hb' _ => hb.block b hb'.lt⟩ fun b _ h => h
  have hmf : ∀ (fn : Fn) (first cap : Array Value) (w : World), (Instr.makeFunc fn first cap).run Go.Proofs.Try.prog w = .ok (.func fn first cap) w := fun _ _ _ _ => rfl
  show Calls _ _ #[sv] w _
  obtain ⟨w2, hw2⟩ : ∃ w2, (w.alloc (.cells #[.slice none 0 0] 25)).alloc (.cells #[.int .i64 0] 26) = w2 := ⟨_, rfl⟩
  have hb2 : Below w.heap.size w w2 := by rw [← hw2]; exact ((Below.refl _ w).alloc (Nat.le_refl _) _).alloc (by simp) _
  have hs2 : w2.heap.size = w.heap.size + 2 := by rw [← hw2]; simp
  have k2 : w2.heap[w.heap.size]? = some (.cells #[.slice none 0 0] 25 (0, 0)) := by
    rw [← hw2]; exact (Below.heap_alloc _ _ _ (by simp)).trans (heap_alloc_new w _)
  have k3 : w2.heap[w.heap.size + 1]? = some (.cells #[.int .i64 0] 26 (0, 0)) := by
    rw [← hw2]
    have := heap_alloc_new (w.alloc (.cells #[.slice none 0 0] 25)) (.cells #[.int .i64 0] 26)
    simpa using this
  have hval := val_call (hkc hb2)
  go_enter_defers Go.Proofs.Try.func27, Go.Proofs.Try.ntmps27
  refine (wpIn_wide (n := 0)).1 ?_
  show Code.wpIn (Fw none) 0 _ _ _ _ _
  refine wpIn_seq (wl_region rfl ?_)
  simp [wl, go_sem, Exit.then, hw2]
  refine wpIn_seq (wpIn_seq (wl_region rfl ?_))
  simp [wl, go_sem]
  refine hval.mono ?_
  rintro e w3 ⟨rfl, hb3⟩
  simp [wl, go_sem, Exit.then]
  refine wpIn_seq (wl_region rfl ?_)
  simp [wl, go_sem, Exit.then]
  have k2' : w3.heap[w.heap.size]? = some (.cells #[.slice none 0 0] 25 (0, 0)) := (hb3.block _ (by omega)).trans k2
  have k3' : w3.heap[w.heap.size + 1]? = some (.cells #[.int .i64 0] 26 (0, 0)) := (hb3.block _ (by omega)).trans k3
  have hb03 : Below w.heap.size w w3 := hb2.trans (hb3.mono hb2.size)
  obtain ⟨ao, cp, rfl, hlt⟩ := hlen
  by_cases h0 : validT t = 0
  · refine wpIn_cond_false (by simp [Act.eval, h0]) (wpIn_skip ?_)
    simp [Exit.then]
    refine wpIn_seq (wl_region rfl ?_)
    simp [wl, go_sem, Exit.then, hmf]
    refine wpIn_seq (wpIn_seq (wl_region rfl ?_))
    simp [wl, go_sem, Exit.then]
    have ht := validT_ok.1 h0
    have h8 := ht.1
    have hwrap : IntKind.i64.wrap ((t.length : Int) + 1) = (t.length : Int) + 1 := wrap_in (by unfold inI; omega)
    rw [hwrap]
    refine wpIn_block (wp_loopAt ?_)
    refine loop_up (n := t.length + 1) (fun m a W => ∃ x5 x16 x17 x18 x19 x20 x21 : Value, a = ⟨#[.slice ao t.length cp, undef, .pointer (some ⟨w.heap.size, 0, none⟩), .pointer (some ⟨w.heap.size + 1, 0, none⟩), .int .i64 (validT t), x5, .slice ao t.length cp, .int .i64 (validT t), .int .i64 (validT t), .bool (validT t != 0), undef,
      .func (.func 76) #[] #[.pointer (some ⟨w.heap.size, 0, none⟩), .pointer (some ⟨w.heap.size + 1, 0, none⟩)], .slice ao t.length cp, .int .i64 t.length, .int .i64 ((t.length : Int) + 1), .int .i64 m, x16, x17, x18, x19, x20, x21], [{ target := .fn (.func 76) #[.pointer (some ⟨w.heap.size, 0, none⟩), .pointer (some ⟨w.heap.size + 1, 0, none⟩)], args := #[] }]⟩ ∧
      Below w2.heap.size w2 W ∧ coverF t m = none) ?_ ?_ 0 (by omega) _ _ ⟨_, _, _, _, _, _, _, rfl, hb3, rfl⟩
    · rintro a W ⟨x5, x16, x17, x18, x19, x20, x21, rfl, hbW, hnone⟩
      refine wpIn_seq (wl_region rfl ?_)
      simp [wl, go_sem, Exit.then]
      refine wpIn_seq (wpIn_cond_false (by simp [Act.eval]) (wpIn_exit ?_))
      simp only [Exit.then, Exit.inBlock, if_true]
      have q2 : W.heap[w.heap.size]? = some (.cells #[.slice none 0 0] 25 (0, 0)) := (hbW.block _ (by omega)).trans k2
      have q3 : W.heap[w.heap.size + 1]? = some (.cells #[.int .i64 0] 26 (0, 0)) := (hbW.block _ (by omega)).trans k3
      obtain ⟨c2, f2⟩ := cell_row0 q2
      have k4 : (W.setCell ⟨w.heap.size, 0, none⟩ (.slice none 0 0)).heap[w.heap.size + 1]? = some (.cells #[.int .i64 0] 26 (0, 0)) := (Below.heap_setCell W _ _ _ (by simp)).trans q3
      obtain ⟨c3, f3⟩ := cell_row0 k4
      have k5 := heap_setCell_row (.int .i64 0) k4
      have k6 : ((W.setCell ⟨w.heap.size, 0, none⟩ (.slice none 0 0)).setCell ⟨w.heap.size + 1, 0, none⟩ (.int .i64 0)).heap[w.heap.size]? = some (.cells #[.slice none 0 0] 25 (0, 0)) := (Below.heap_setCell _ _ _ _ (by simp)).trans (heap_setCell_row (.slice none 0 0) q2)
      obtain ⟨c5, f5⟩ := cell_row0 k5
      obtain ⟨c6, f6⟩ := cell_row0 k6
      refine wpIn_seq (wl_region rfl ?_)
      simp [wl, go_sem, Exit.then, c2, f2, c3, f3]
      refine wpIn_ret ?_
      refine leaves_cons (f := 76) (args := #[.pointer (some ⟨w.heap.size, 0, none⟩), .pointer (some ⟨w.heap.size + 1, 0, none⟩)]) (by simp) (by simp [go_sem]) ?_
      refine (cover_idle ⟨w.heap.size, 0, none⟩ ⟨w.heap.size + 1, 0, none⟩ _).mono ?_
      rintro e u' w'' ⟨rfl, rfl, rfl⟩
      have hcv : coverS t = [] := by unfold coverS; rw [hnone]
      refine ⟨.tuple #[.slice none 0 0, .int .i64 (validT t)], ?_, cover_post ?_ (by rw [if_pos h0, hcv]) nil_rep⟩
      · rw [h0]
        simp [results, Go.Proofs.Try.results27, go_sem, c5, c6]
      · exact ((hb2.trans (hbW.mono hb2.size)).setCell (Nat.le_refl _) _).setCell (by simp) _
    · rintro m a W hm ⟨x5, x16, x17, x18, x19, x20, x21, rfl, hbW, hnone⟩
      refine wpIn_seq (wl_region rfl ?_)
      simp [wl, go_sem, Exit.then]
      refine wpIn_seq (wpIn_cond_true (by simp [Act.eval]; omega) (wpIn_skip ?_))
      simp only [Exit.then]
      refine wpIn_seq (wpIn_block (wpIn_seq (wl_region rfl ?_)))
      simp [wl, go_sem, Exit.then]
      refine wl_region rfl ?_
      simp [wl, go_sem, Exit.then, Exit.inBlock]
      have hbw : Below w.heap.size w W := hb2.trans (hbW.mono hb2.size)
      refine (search_call (n0 := w2.heap.size) hbW.size (hkc hbw) ht (m := m) (by omega)).mono ?_
      rintro e W' ⟨hbW', ⟨e1, u, rfl⟩ | ⟨y, sv, e1, rfl, hsv⟩⟩
      · simp [wl, go_sem, Exit.then, Exit.inBlock]
        refine wl_region rfl ?_
        simp [wl, go_sem, Exit.then]
        exact ⟨wrap_in (by unfold inI; omega), hbW.trans (hbW'.mono hbW.size), by rw [coverF_succ, hnone]; exact e1⟩
      · simp only [Exit.then, Exit.inBlock]
        have q2 : W'.heap[w.heap.size]? = some (.cells #[.slice none 0 0] 25 (0, 0)) := (hbW'.block _ (by have := hbW.size; omega)).trans ((hbW.block _ (by omega)).trans k2)
        have q3 : W'.heap[w.heap.size + 1]? = some (.cells #[.int .i64 0] 26 (0, 0)) := (hbW'.block _ (by have := hbW.size; omega)).trans ((hbW.block _ (by omega)).trans k3)
        have hsl : ∃ ao n c, sv = .slice ao n c := by
          obtain ⟨u, e, ao, c, e', _⟩ := hsv
          cases e
          exact ⟨ao, _, c, e'⟩
        refine leaves_cons (f := 76) (args := #[.pointer (some ⟨w.heap.size, 0, none⟩), .pointer (some ⟨w.heap.size + 1, 0, none⟩)]) (by simp) (by simp [go_sem]) ?_
        refine (cover_catch w.heap.size (w.heap.size + 1) sv _ _ _ q2 q3 (by omega) hsl).mono ?_
        rintro e u' w'' ⟨rfl, rfl, rfl⟩
        have l2 : w.heap.size < W'.heap.size := (Array.getElem?_eq_some_iff.1 q2).1
        have l3 : w.heap.size + 1 < W'.heap.size := (Array.getElem?_eq_some_iff.1 q3).1
        have r2 : (W'.alloc (.cells #[sv] 62)).heap[w.heap.size]? = some (.cells #[.slice none 0 0] 25 (0, 0)) := (Below.heap_alloc _ _ _ l2).trans q2
        have r3 : (W'.alloc (.cells #[sv] 62)).heap[w.heap.size + 1]? = some (.cells #[.int .i64 0] 26 (0, 0)) := (Below.heap_alloc _ _ _ l3).trans q3
        have s3 : ((W'.alloc (.cells #[sv] 62)).setCell ⟨w.heap.size, 0, none⟩ sv).heap[w.heap.size + 1]? = some (.cells #[.int .i64 0] 26 (0, 0)) := (Below.heap_setCell _ _ _ _ (by simp)).trans r3
        have k5 := heap_setCell_row (.int .i64 0) s3
        have k6 : (((W'.alloc (.cells #[sv] 62)).setCell ⟨w.heap.size, 0, none⟩ sv).setCell ⟨w.heap.size + 1, 0, none⟩ (.int .i64 0)).heap[w.heap.size]? = some (.cells #[sv] 25 (0, 0)) := (Below.heap_setCell _ _ _ _ (by simp)).trans (heap_setCell_row sv r2)
        obtain ⟨c5, f5⟩ := cell_row0 k5
        obtain ⟨c6, f6⟩ := cell_row0 k6
        have hcv : coverS t = y.1 := by
          unfold coverS
          rw [coverF_le (k := m + 1) (y := y) (by rw [coverF_succ, hnone]; exact e1) (by omega)]
        refine ⟨.tuple #[sv, .int .i64 (validT t)], ?_, cover_post (l := y.1) ?_ (by rw [if_pos h0, hcv]) ?_⟩
        · rw [h0]
          obtain ⟨ao', n', c', rfl⟩ := hsl
          simp [results, Go.Proofs.Try.results27, go_sem, c5, c6]
        · exact (((hbw.trans (hbW'.mono hbw.size)).alloc (by omega) _).setCell (Nat.le_refl _) _).setCell (by simp) _
        · refine c_mono (S' := fun b => w.heap.size ≤ b) (.sl .int) (c_keep (.sl .int) (S' := fun b => w2.heap.size ≤ b) hsv ⟨by simp [World.setCell], fun b hb hlt => ?_⟩ fun b _ h => h) fun b _ h => by omega
          refine (Below.heap_setCell _ _ _ _ (by simp; omega)).trans ((Below.heap_setCell _ _ _ _ (by simp; omega)).trans (Below.heap_alloc _ _ _ hb.lt))
  · have c2 : w3.cell? ⟨w.heap.size, 0, none⟩ = some (.slice none 0 0) := by simp [World.cell?, k2']
    have f2 : w3.frozen? ⟨w.heap.size, 0, none⟩ = false := by simp [World.frozen?, k2']
    have k4 : (w3.setCell ⟨w.heap.size, 0, none⟩ (.slice none 0 0)).heap[w.heap.size + 1]? = some (.cells #[.int .i64 0] 26 (0, 0)) := (Below.heap_setCell w3 _ _ _ (by simp)).trans k3'
    have c3 : (w3.setCell ⟨w.heap.size, 0, none⟩ (.slice none 0 0)).cell? ⟨w.heap.size + 1, 0, none⟩ = some (.int .i64 0) := by simp [World.cell?, k4]
    have f3 : (w3.setCell ⟨w.heap.size, 0, none⟩ (.slice none 0 0)).frozen? ⟨w.heap.size + 1, 0, none⟩ = false := by simp [World.frozen?, k4]
    refine wpIn_cond_true (by simp [Act.eval, h0]) ?_
    refine wpIn_seq (wl_region rfl ?_)
    simp [wl, go_sem, Exit.then, c2, f2, c3, f3]
    refine wpIn_ret ?_
    simp only [Exit.then]
    have k5 := heap_setCell_row (.int .i64 (validT t)) k4
    have k6 : ((w3.setCell ⟨w.heap.size, 0, none⟩ (.slice none 0 0)).setCell ⟨w.heap.size + 1, 0, none⟩ (.int .i64 (validT t))).heap[w.heap.size]? = some (.cells #[.slice none 0 0] 25 (0, 0)) := (Below.heap_setCell _ _ _ _ (by simp)).trans (heap_setCell_row (.slice none 0 0) k2')
    obtain ⟨c5, f5⟩ := cell_row0 k5
    obtain ⟨c6, f6⟩ := cell_row0 k6
    refine ⟨.tuple #[.slice none 0 0, .int .i64 (validT t)], ?_, cover_post ?_ (by rw [if_neg h0]) nil_rep⟩
    · simp [results, Go.Proofs.Try.results27, go_sem, c5, c6]
    · exact (hb03.setCell (Nat.le_refl _) _).setCell (by simp) _
end Go.Tk
