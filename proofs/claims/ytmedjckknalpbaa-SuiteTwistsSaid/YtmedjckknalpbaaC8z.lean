/- suite.Best: the calls that its closure makes. -/
import Derived.Test.YtmedjckknalpbaaC8q
import Derived.WalkKit
import Derived.Deep.RegionHeld3
set_option linter.unusedSimpArgs false
set_option linter.unusedVariables false
set_option linter.unnecessarySimpa false
namespace Go.Tk
open Go Go.RowKit
abbrev tInts : T := .sl .int
abbrev rI (x : Int) (cs : List Value) : Prop := cs = [.int .i64 x] ∧ inI x
theorem met_call {w : World} {S : Nat → Prop} {t : Ste} {o : List Int} {v ov : Value} (ht : (reps Go.Proofs.Try.prog tSte).c w S t [v]) (ho : (reps Go.Proofs.Try.prog tInts).c w S o [ov]) (h1 : okT t) (h2 : inT t o) :
    Calls Go.Proofs.Try.prog 81 #[v, ov] w fun e w' => ∃ ao c, e = .returned (.slice ao (metL t o).length c) ∧ Below w.heap.size w w' := by
  refine ((cMet8_ok.1 rfl) w S (t, o, ()) [v, ov] ⟨v, [ov], [], [], rfl, rfl, ⟨rfl, [v], rfl, ht⟩, ov, [], [], [], rfl, rfl, ⟨rfl, [ov], rfl, ho⟩, rfl, rfl⟩ ⟨h1, h2⟩).mono ?_
  rintro e w' ⟨rs, bs, rfl, ⟨u, us, b1, b2, rfl, _, h3, rfl, _⟩, _, _, hb⟩
  obtain ⟨ob, hown, _⟩ := h3
  rcases hown with ⟨rfl, e, _⟩ | ⟨b, off, cap, cur, e, _, rfl, _⟩
  · have e : metL t o = [] := e
    rw [e]
    exact ⟨none, 0, rfl, hb⟩
  · exact ⟨_, cap, rfl, hb⟩
theorem clone_call {w : World} {S : Nat → Prop} {o : List Int} {ov : Value} (ho : (reps Go.Proofs.Try.prog tInts).c w S o [ov]) (h1 : o.length ≤ 1000000) :
    Calls Go.Proofs.Try.prog 91 #[ov] w fun e w' => ∃ (v : Value) (ob : Option (Nat × Nat)), e = .returned v ∧ repOwn rI 1 w' (fun _ => True) o v ob ∧ (∀ b off, ob = some (b, off) → w.heap.size ≤ b) ∧ Below w.heap.size w w' := by
  refine ((cCloneI_ok.1 rfl) w S (o, ()) [ov] ⟨ov, [], [], [], rfl, rfl, ⟨rfl, [ov], rfl, ho⟩, rfl, rfl⟩ h1).mono ?_
  rintro e w' ⟨rs, bs, rfl, ⟨u, us, b1, b2, rfl, rfl, h3, rfl, _⟩, _, hbs, hb⟩
  obtain ⟨ob, hown, rfl⟩ := h3
  refine ⟨u, ob, rfl, hown, ?_, hb⟩
  rintro b off rfl
  exact hbs b (by simp)
theorem cont_call {w : World} {S : Nat → Prop} {o : List Int} {ov : Value} {r : Int} (ho : (reps Go.Proofs.Try.prog tInts).c w S o [ov]) (hr : inI r) :
    Calls Go.Proofs.Try.prog 90 #[ov, .int .i64 r] w fun e w' => e = .returned (.bool (decide (r ∈ o))) ∧ Below w.heap.size w w' := by
  refine ((cContN_ok.1 rfl) w S (o, r, ()) [ov, .int .i64 r] ⟨ov, [.int .i64 r], [], [], rfl, rfl, ⟨rfl, [ov], rfl, ho⟩, .int .i64 r, [], [], [], rfl, rfl, ⟨rfl, [.int .i64 r], rfl, rfl, hr⟩, rfl, rfl⟩ trivial).mono ?_
  rintro e w' ⟨rs, bs, rfl, ⟨u, us, _, _, rfl, _, ⟨_, cs, rfl, rfl⟩, rfl, _⟩, _, _, hb⟩
  exact ⟨rfl, hb⟩
theorem all_call {w : World} {n : Nat} (hn : n ≤ 1000) :
    Calls Go.Proofs.Try.prog 67 #[.int .i64 n] w fun e w' => ∃ v, e = .returned v ∧ (reps Go.Proofs.Try.prog tInts).c w' (fun b => w.heap.size ≤ b) (nums n) [v] ∧ Below w.heap.size w w' := by
  have hin : inI (n : Int) := by unfold inI; omega
  refine ((cAll8_ok.1 rfl) w (fun _ => False) ((n : Int), ()) [.int .i64 n] ⟨.int .i64 n, [], [], [], rfl, rfl, ⟨rfl, [.int .i64 n], rfl, rfl, hin⟩, rfl, rfl⟩ ⟨show (0 : Int) ≤ n by omega, show (n : Int) ≤ 4294967296 by omega⟩).mono ?_
  rintro e w' ⟨rs, bs, rfl, ⟨u, us, b1, b2, rfl, rfl, h3, rfl, _⟩, _, hbs, hb⟩
  obtain ⟨ob, hown, rfl⟩ := h3
  refine ⟨u, rfl, ⟨u, rfl, ?_⟩, hb⟩
  have e : (cAll8.F ((n : Int), ())).1 = nums n := by
    show nums (n : Int).toNat = _
    rw [Int.toNat_natCast]
  have := repSl_of_own (S' := fun b => w.heap.size ≤ b) (R' := (reps Go.Proofs.Try.prog .int).c w' (fun b => w.heap.size ≤ b)) hown (fun b o e => hbs b (by rw [e]; simp)) fun _ _ h => h
  rw [e] at this
  exact this
theorem wait_call {w : World} {S : Nat → Prop} {t : Ste} {o : List Int} {v ov : Value} (ht : (reps Go.Proofs.Try.prog tSte).c w S t [v]) (ho : (reps Go.Proofs.Try.prog tInts).c w S o [ov]) (h1 : okT t) (h2 : inT t o) (h3 : o.length ≤ 100) :
    Calls Go.Proofs.Try.prog 88 #[v, ov] w fun e w' => e = .returned (.int .i64 (waitL t o)) ∧ inI (waitL t o) ∧ Below w.heap.size w w' := by
  refine ((cWait_ok.1 rfl) w S (t, o, ()) [v, ov] ⟨v, [ov], [], [], rfl, rfl, ⟨rfl, [v], rfl, ht⟩, ov, [], [], [], rfl, rfl, ⟨rfl, [ov], rfl, ho⟩, rfl, rfl⟩ ⟨h1, h2, h3⟩).mono ?_
  rintro e w' ⟨rs, bs, rfl, ⟨u, us, _, _, rfl, _, ⟨_, cs, rfl, rfl, hi⟩, rfl, _⟩, _, _, hb⟩
  exact ⟨rfl, hi, hb⟩
theorem open_call {w : World} {S : Nat → Prop} {t : Ste} {v : Value} (ht : (reps Go.Proofs.Try.prog tSte).c w S t [v]) (h1 : okT t) :
    Calls Go.Proofs.Try.prog 57 #[v] w fun e w' => ∃ ao c, e = .returned (.slice ao (openL t).length c) ∧ Below w.heap.size w w' := by
  refine ((cOpen8_ok.1 rfl) w S (t, ()) [v] ⟨v, [], [], [], rfl, rfl, ⟨rfl, [v], rfl, ht⟩, rfl, rfl⟩ h1).mono ?_
  rintro e w' ⟨rs, bs, rfl, ⟨u, us, b1, b2, rfl, _, h3, rfl, _⟩, _, _, hb⟩
  obtain ⟨ob, hown, _⟩ := h3
  rcases hown with ⟨rfl, e, _⟩ | ⟨b, off, cap, cur, e, _, rfl, _⟩
  · have e : openL t = [] := e
    rw [e]
    exact ⟨none, 0, rfl, hb⟩
  · exact ⟨_, cap, rfl, hb⟩

/-- append at a step of a region that draws its order. -/
theorem step_app {ops : Array Oper} {o : Oper} {a : Act} {K : Act → World → Prop} {Q : Exit → Act → World → Prop} {E : Prop} {w : World} (hgd : o.guard = none) (s x : Operand)
    (ho : o.op = .call { callee := .builtin .append, args := #[s, x], argTypes := #[25, 25] }) {xs ys : List Int} {v vy : Value} {ob : Option (Nat × Nat)} (hs : a.eval s = v) (hx : a.eval x = vy)
    (hown : repOwn rI 1 w (fun _ => True) xs v ob) (hy : repSl rI w (fun _ => True) ys vy) (hlen : xs.length + ys.length ≤ 4294967296)
    (h : ∀ v' w' ob', repOwn rI 1 w' (fun _ => True) (xs ++ ys) v' ob' → w'.os = w.os → w'.tape = w.tape → w'.output = w.output → w.heap.size ≤ w'.heap.size → (∀ i, i < w.heap.size → (∀ o, ob ≠ some (i, o)) → w'.heap[i]? = w.heap[i]?) → (∀ b o, ob' = some (b, o) → w.heap.size ≤ b ∨ ∃ o', ob = some (b, o')) → K (a.put o.dst v') w') :
    if Region.wanted o (yielded ops a.tmps) = true then Oper.wp Go.Proofs.Try.prog o a w K Q else E := by
  have hw : Region.wanted o (yielded ops a.tmps) = true := by simp [Region.wanted, hgd]
  rw [if_pos hw]
  have hty : (tys Go.Proofs.Try.prog (.sl .int)).ty 25 := (tyB_ok Go.Proofs.Try.prog (.sl .int)).1 25 (by kernel_rfl)
  obtain ⟨e, t1, t2⟩ := ty_sl hty
  obtain ⟨v', w', ob', hr, g1, g2, g3, g4, g5, g6, g7⟩ := run_append (ty := o.type) t1 t2 rfl (R := rI) (fun x cs h => by
    obtain ⟨rfl, _⟩ := h
    exact ⟨rfl, fun u hu => by rw [List.mem_singleton.1 hu]; rfl⟩) (S := fun _ => True) hown hy hlen
  unfold Oper.wp execOp
  simp only [ho, resolve, invoke, builtin, Sem.run_bind, Sem.run_pure, Result.andThen_ok, List.map_toArray, List.map_cons, List.map_nil, hs, hx, hr]
  exact h v' w' ob' g1 g2 g3 g4 g5 g6 g7
end Go.Tk
