/- Merged: C8D C8E C8F C8Fa C8G C8H C8I P8W C8K C8L C8l C8m C8J. -/
import Derived.Test.YtmedjckknalpbaaMg2
import Derived.WalkKit
import Derived.Great.BuildSlice
import Derived.Shelf.RegionOpenPlain
import Derived.Shelf.SlicesE.Delete
import Derived.Shelf.SlGeneric
import Derived.Ground.SlgnProg
/- Suites copied, by hand: the rows lie in memory of their own. -/
set_option linter.unusedSimpArgs false
set_option linter.unusedVariables false
set_option linter.unnecessarySimpa false
set_option maxRecDepth 10000
set_option maxHeartbeats 1000000
namespace Go.Tk
open Go Go.RowKit
/-! ### Regions with guards, by hand -/
def qlg (P : Program) (ops : Array Oper) : List Oper → (Act → World → Prop) → (Exit → Act → World → Prop) → Act → World → Prop
  | [], K, _, a, w => K a w
  | o :: l, K, Q, a, w => if Region.wanted o (yielded ops a.tmps) = true then o.upon P a (fun a' w' => qlg P ops l K Q a' w') Q ((execOp a.eval o).run P w) else qlg P ops l K Q (a.put o.dst undef) w
theorem qlg_ops {P : Program} {ops : Array Oper} {Q : Exit → Act → World → Prop} : ∀ (l : List Oper) (k : Nat) (a : Act) (w : World), (∀ j, l[j]? = ops[k + j]?) → qlg P ops l (Q .normal) Q a w →
    wpOpsIn (Fw none) 0 P ops Q (List.range' k l.length) a w
  | [], k, a, w, _, h => by
    have h : Q .normal a w := h
    simpa [wpOpsIn] using h
  | o :: l, k, a, w, hl, h => by
    rw [List.length_cons, List.range'_succ, wpOpsIn_cons]
    have ho : ops[k]? = some o := by simpa using (hl 0).symm
    have hl' : ∀ j, l[j]? = ops[k + 1 + j]? := fun j => by have := hl (j + 1); simpa [Nat.add_assoc, Nat.add_comm 1 j] using this
    unfold wpOpIn
    rw [ho]
    simp only [qlg] at h
    split at h
    · rename_i hw
      simp only [hw, if_true]
      refine ⟨fun _ _ => trivial, ?_⟩
      show Oper.uponIn (Fw none) 0 P o a _ Q ((o.semAt none a.eval).run P w)
      rw [Oper.semAt_none]
      exact upon_in (ql_mono (fun a' w' h' => qlg_ops l (k + 1) a' w' hl' h') h)
    · rename_i hw
      simp only [hw]
      exact ⟨fun _ _ => trivial, qlg_ops l (k + 1) _ w hl' h⟩
theorem qlg_region {P : Program} {ops : Array Oper} {id : Nat} {Q : Exit → Act → World → Prop} {a : Act} {w : World} (h : qlg P ops ops.toList (Q .normal) Q a w) : (Code.region id ops false).wpIn (Fw none) 0 P Q a w := by
  refine wpIn_region ?_
  have := qlg_ops (P := P) (ops := ops) (Q := Q) ops.toList 0 a w (by simp) h
  simpa [List.range_eq_range'] using this
theorem tail_ops {P : Program} {ops : Array Oper} {Q : Exit → Act → World → Prop} {a : Act} {w : World} (k c : Nat) (hc : (ops.toList.drop k).length = c) (h : qlg P ops (ops.toList.drop k) (Q .normal) Q a w) : wpOpsIn (Fw none) 0 P ops Q (List.range' k c) a w := by
  subst hc
  exact qlg_ops _ k a w (fun j => by simp [List.getElem?_drop]) h
theorem run_app2 {P : Program} {ev : Operand → Value} {w w' : World} {o : Oper} {x y : Operand} {vx vy : Value} {tt : Array TypeId} {v' : Value} (ho : o.op = .call ⟨.builtin .append, #[x, y], tt⟩) (hx : ev x = vx) (hy : ev y = vy) (h : (Builtin.append_ tt o.type #[vx, vy]).run P w = .ok v' w') : (execOp ev o).run P w = .ok (.value v') w' := by
  unfold execOp
  rw [ho]
  simp only [resolve, Sem.run_bind, Sem.run_pure, Result.andThen_ok, invoke, builtin]
  have h' : (Builtin.append_ tt o.type (Array.map ev #[x, y])).run P w = .ok v' w' := by simpa [hx, hy] using h
  rw [h']
  rfl
theorem heap_self (w : World) (o : Obj) : (w.alloc o).heap[w.heap.size]? = some o := by show (w.heap.push o)[w.heap.size]? = some o; simp
theorem row_cell {w : World} {b k : Nat} {cur : Array Value} {e : TypeId} (h : w.heap[b]? = some (.cells cur e (0, 0))) : w.cell? ⟨b, k, none⟩ = cur[k]? := by
  simp [World.cell?, h]
theorem row_warm {w : World} {b k : Nat} {cur : Array Value} {e : TypeId} (h : w.heap[b]? = some (.cells cur e (0, 0))) : w.frozen? ⟨b, k, none⟩ = false := by
  unfold World.frozen?
  rw [h]
  simp

/-! ### Suites whose rows lie in memory of their own -/
abbrev rV (v : Value) (cs : List Value) : Prop := cs = [v]
abbrev OB := Option (Nat × Nat)
structure NestW (lo : Nat) (w : World) (t : Ste) (v : Value) (ob : OB) (vs : List Value) (os : List OB) : Prop where
  lenv : vs.length = t.length
  leno : os.length = t.length
  out : repOwn rV 1 w (fun b => lo ≤ b) vs v ob
  row : ∀ j, j < t.length → repOwn rI 1 w (fun b => lo ≤ b) (t.getD j []) (vs.getD j undef) (os.getD j none)
  sep : ∀ j, j < t.length → ∀ b o, os.getD j none = some (b, o) → ∀ o', ob ≠ some (b, o')
  dis : ∀ j k, j < t.length → k < t.length → j ≠ k → ∀ b o o', os.getD j none = some (b, o) → os.getD k none ≠ some (b, o')
theorem own_lt {α : Type} {R : α → List Value → Prop} {n : Nat} {w : World} {S : Nat → Prop} {xs : List α} {v : Value} {b o : Nat} (h : repOwn R n w S xs v (some (b, o))) : b < w.heap.size ∧ S b := by
  rcases h with ⟨_, _, e⟩ | ⟨b', off, cap, cur, e, g1, g2, g3, g4, g5⟩
  · cases e
  · cases g1; exact ⟨(Array.getElem?_eq_some_iff.1 g4).1, g3⟩
theorem own_blk {α : Type} {R : α → List Value → Prop} {n : Nat} {w w' : World} {S : Nat → Prop} {xs : List α} {v : Value} {ob : OB} (h : repOwn R n w S xs v ob) (hb : ∀ b o, ob = some (b, o) → w'.heap[b]? = w.heap[b]?) : repOwn R n w' S xs v ob := by
  rcases h with h | ⟨b, off, cap, cur, e, g1, g2, g3, g4, g5⟩
  · exact .inl h
  · exact .inr ⟨b, off, cap, cur, e, g1, g2, g3, (hb b off g1).trans g4, g5⟩
theorem own_S {α : Type} {R : α → List Value → Prop} {n : Nat} {w : World} {S S' : Nat → Prop} {xs : List α} {v : Value} {ob : OB} (h : repOwn R n w S xs v ob) (hb : ∀ b o, ob = some (b, o) → S' b) : repOwn R n w S' xs v ob := by
  rcases h with h | ⟨b, off, cap, cur, e, g1, g2, g3, g4, g5⟩
  · exact .inl h
  · exact .inr ⟨b, off, cap, cur, e, g1, g2, hb b off g1, g4, g5⟩
theorem own_one {α : Type} {R : α → List Value → Prop} {n : Nat} {w : World} {S : Nat → Prop} {xs : List α} {v : Value} {ob : OB} (h : repOwn R n w S xs v ob) : v.oneCell' = true := by
  rcases h with ⟨rfl, _⟩ | ⟨b, off, cap, cur, e, g1, rfl, _⟩ <;> rfl
theorem NestW.below {lo : Nat} {w w' : World} {t : Ste} {v : Value} {ob : OB} {vs : List Value} {os : List OB} (h : NestW lo w t v ob vs os) (hb : Below w.heap.size w w') : NestW lo w' t v ob vs os :=
  ⟨h.lenv, h.leno, own_blk h.out fun b o e => hb.block b (own_lt (e ▸ h.out)).1, fun j hj => own_blk (h.row j hj) fun b o e => hb.block b (own_lt (e ▸ h.row j hj)).1, h.sep, h.dis⟩

theorem repL_map {α : Type} {R : α → List Value → Prop} {f : α → Value} (h : ∀ x cs, R x cs → cs = [f x]) : ∀ xs cs, repL R xs cs → cs = xs.map f
  | [], cs, e => e
  | x :: xs, cs, ⟨c1, c2, e, h1, h2⟩ => by
    rw [e, h x c1 h1, repL_map h xs c2 h2]; rfl
theorem repL_of_map {α : Type} {R : α → List Value → Prop} {f : α → Value} : ∀ xs : List α, (∀ x ∈ xs, R x [f x]) → repL R xs (xs.map f)
  | [], _ => rfl
  | x :: xs, h => ⟨[f x], xs.map f, rfl, h x (by simp), repL_of_map xs fun y hy => h y (by simp [hy])⟩
/-- Labels: the numbers of the places. -/
def labs (n : Nat) : List (List Int) := (List.range n).map fun i : Nat => [(i : Int)]
def labF (vs : List Value) (l : List Int) : Value := vs.getD (l.headD 0).toNat undef
theorem labs_map (vs : List Value) : (labs vs.length).map (labF vs) = vs := by
  unfold labs labF
  rw [List.map_map]
  apply List.ext_getElem (by simp)
  intro i h1 h2
  simp [List.getD_eq_getElem?_getD, h2]
def labR (vs : List Value) (l : List Int) (cs : List Value) : Prop := (∃ k, k < vs.length ∧ l = [(k : Int)]) ∧ cs = [labF vs l]
theorem labs_len (n : Nat) : (labs n).length = n := by simp [labs]
theorem labs_succ (n : Nat) : labs (n + 1) = labs n ++ [[(n : Int)]] := by simp [labs, List.range_succ]
theorem own_labs {w : World} {S : Nat → Prop} {us vs : List Value} {v : Value} {ob : OB} (h : repOwn rV 1 w S vs v ob) (hu : us.take vs.length = vs) (hl : vs.length ≤ us.length) : repOwn (labR us) 1 w S (labs vs.length) v ob := by
  have hr : ∀ cs, repL rV vs cs → repL (labR us) (labs vs.length) cs := by
    intro cs hc
    have e := repL_map (f := fun v => v) (fun x cs h => h) vs cs hc
    have e2 : (labs vs.length).map (labF us) = vs := by
      have := labs_map us
      rw [show labs vs.length = (labs us.length).take vs.length by simp [labs, ← List.map_take, List.take_range, Nat.min_eq_left hl], List.map_take, this, hu]
    rw [e, List.map_id', ← e2]
    have e3 : vs.length = ((labs vs.length).map (labF us)).length := by rw [e2]
    rw [← e3]
    refine repL_of_map _ fun x hx => ⟨?_, rfl⟩
    unfold labs at hx
    obtain ⟨k, hk, rfl⟩ := List.mem_map.1 hx
    exact ⟨k, by have := List.mem_range.1 hk; omega, rfl⟩
  rcases h with ⟨rfl, rfl, rfl⟩ | ⟨b, off, cap, cur, e, g1, g2, g3, g4, g5, g6, g7, g8⟩
  · exact .inl ⟨rfl, by simp [labs], rfl⟩
  · exact .inr ⟨b, off, cap, cur, e, g1, by rw [labs_len]; exact g2, g3, g4, by rw [labs_len]; exact g5, by rw [labs_len]; exact g6, g7, by rw [labs_len]; exact hr _ g8⟩
theorem own_unlab {w : World} {S : Nat → Prop} {vs : List Value} {v : Value} {ob : OB} (h : repOwn (labR vs) 1 w S (labs vs.length) v ob) : repOwn rV 1 w S vs v ob := by
  have hr : ∀ cs, repL (labR vs) (labs vs.length) cs → repL rV vs cs := by
    intro cs hc
    have e := repL_map (f := labF vs) (fun x cs h => h.2) _ cs hc
    rw [labs_map] at e
    rw [e]
    have := repL_of_map (R := rV) (f := fun v => v) vs fun x _ => rfl
    rwa [List.map_id'] at this
  rcases h with ⟨rfl, e, rfl⟩ | ⟨b, off, cap, cur, e, g1, g2, g3, g4, g5, g6, g7, g8⟩
  · have : vs.length = 0 := by rw [← labs_len vs.length, e]; rfl
    exact .inl ⟨rfl, List.length_eq_zero_iff.1 this, rfl⟩
  · rw [labs_len] at g2 g5 g6 g8
    exact .inr ⟨b, off, cap, cur, e, g1, g2, g3, g4, g5, g6, g7, hr _ g8⟩
/-- append of one value. -/
theorem app_val {w : World} {S : Nat → Prop} {vs : List Value} {v nv : Value} {ob : OB} {bb : Nat} {eb ty : TypeId} (h : repOwn rV 1 w S vs v ob) (hv : ∀ x ∈ vs, x.oneCell' = true) (hn : nv.oneCell' = true) (hl : vs.length < 1000) (hb : w.heap[bb]? = some (.cells #[nv] eb (0, 0))) :
    ∃ v' w' ob', (Builtin.append_ #[22, 22] ty #[v, .slice (some ⟨bb, 0, none⟩) 1 1]).run Go.Proofs.Try.prog w = .ok v' w' ∧ repOwn rV 1 w' (fun _ => True) (vs ++ [nv]) v' ob' ∧ w'.os = w.os ∧ w'.tape = w.tape ∧ w'.output = w.output ∧ w.heap.size ≤ w'.heap.size ∧
      (∀ i, i < w.heap.size → (∀ o, ob ≠ some (i, o)) → w'.heap[i]? = w.heap[i]?) ∧ (∀ b o, ob' = some (b, o) → w.heap.size ≤ b ∨ ∃ o', ob = some (b, o')) := by
  obtain ⟨e, u1, u2⟩ := ty_sl ((tyB_ok Go.Proofs.Try.prog tSte).1 22 (by kernel_rfl))
  have hus : (vs ++ [nv]).length = vs.length + 1 := by simp
  have hone : ∀ k, k < (vs ++ [nv]).length → ((vs ++ [nv]).getD k undef).oneCell' = true := by
    intro k hk
    have : (vs ++ [nv]).getD k undef ∈ vs ++ [nv] := mem_getD hk
    rcases List.mem_append.1 this with g | g
    · exact hv _ g
    · rw [List.mem_singleton] at g; rw [g]; exact hn
  obtain ⟨v', w', ob', r1, r2, r3, r4, r5, r6, r7, r8⟩ := run_append (P := Go.Proofs.Try.prog) (t := 22) (e := e) (ty := ty) (a := tInts) u1 u2 rfl (R := labR (vs ++ [nv])) (fun x cs h => by
    obtain ⟨⟨k, hk, rfl⟩, rfl⟩ := h
    refine ⟨rfl, fun u hu => ?_⟩
    rw [List.mem_singleton.1 hu]
    exact hone k hk) (S := S) (xs := labs vs.length) (ys := [[(vs.length : Int)]]) (v := v) (vy := .slice (some ⟨bb, 0, none⟩) 1 1) (ob := ob) (own_labs h (by simp) (by simp)) ⟨_, 1, rfl, Nat.le_refl _, by simp, .inr ⟨bb, 0, [nv], rfl, trivial, (Array.getElem?_eq_some_iff.1 hb).1, fun j u hu => by
      cases j with
      | zero => simp at hu; subst hu; rw [row_cell hb]; rfl
      | succ j => simp at hu, ⟨[nv], [], rfl, ⟨⟨vs.length, by simp, rfl⟩, by simp [labF]⟩, rfl⟩⟩⟩ (by rw [labs_len]; simp; omega)
  refine ⟨v', w', ob', r1, own_unlab ?_, r3, r4, r5, r6, r7, r8⟩
  rw [hus, labs_succ]
  exact r2
theorem getD_snoc {α : Type} (l : List α) (x d : α) (j : Nat) : (l ++ [x]).getD j d = if j = l.length then x else l.getD j d := by
  by_cases h : j = l.length
  · subst h; simp
  · rw [if_neg h]
    rcases Nat.lt_or_ge j l.length with g | g
    · simp [List.getD_eq_getElem?_getD, List.getElem?_append_left g, g]
    · rw [List.getD_eq_getElem?_getD, List.getD_eq_getElem?_getD, List.getElem?_eq_none (by simp; omega), List.getElem?_eq_none (by omega)]
theorem NestW.snoc {lo : Nat} {w w' : World} {t : Ste} {v v' nv : Value} {ob ob' nob : OB} {vs : List Value} {os : List OB} {xs : List Int} (h : NestW lo w t v ob vs os) (hn : repOwn rI 1 w (fun b => lo ≤ b) xs nv nob) (hd : ∀ b o, nob = some (b, o) → (∀ o', ob ≠ some (b, o')) ∧ ∀ j, j < t.length → ∀ o', os.getD j none ≠ some (b, o'))
    (hlo : lo ≤ w.heap.size) (ho : repOwn rV 1 w' (fun _ => True) (vs ++ [nv]) v' ob') (hk : ∀ i, i < w.heap.size → (∀ o, ob ≠ some (i, o)) → w'.heap[i]? = w.heap[i]?) (hb : ∀ b o, ob' = some (b, o) → w.heap.size ≤ b ∨ ∃ o', ob = some (b, o')) : NestW lo w' (t ++ [xs]) v' ob' (vs ++ [nv]) (os ++ [nob]) := by
  have lv := h.lenv
  have lo' := h.leno
  refine ⟨by simp [lv], by simp [lo'], own_S ho fun b o e => ?_, fun j hj => ?_, fun j hj b o e => ?_, fun j k hj hk' hne b o o' e => ?_⟩
  · rcases hb b o e with g | ⟨o', g⟩
    · omega
    · exact (own_lt (g ▸ h.out)).2
  · rw [getD_snoc, getD_snoc, getD_snoc, lv, lo']
    by_cases g : j = t.length
    · rw [if_pos g, if_pos g, if_pos g]
      exact own_blk hn fun b o e => hk b (own_lt (e ▸ hn)).1 (hd b o e).1
    · rw [if_neg g, if_neg g, if_neg g]
      have hj' : j < t.length := by simp at hj; omega
      exact own_blk (h.row j hj') fun b o e => hk b (own_lt (e ▸ h.row j hj')).1 (h.sep j hj' b o e)
  · intro o' e'
    rw [getD_snoc, lo'] at e
    have hlt : b < w.heap.size ∧ ∀ o', ob ≠ some (b, o') := by
      by_cases g : j = t.length
      · rw [if_pos g] at e
        exact ⟨(own_lt (e ▸ hn)).1, (hd b o e).1⟩
      · rw [if_neg g] at e
        have hj' : j < t.length := by simp at hj; omega
        exact ⟨(own_lt (e ▸ h.row j hj')).1, h.sep j hj' b o e⟩
    rcases hb b o' e' with g | ⟨o2, g⟩
    · omega
    · exact hlt.2 o2 g
  · rw [getD_snoc, lo'] at e ⊢
    by_cases g : j = t.length
    · rw [if_pos g] at e
      have hk2 : k < t.length := by simp at hk'; omega
      rw [if_neg (by omega)]
      exact (hd b o e).2 k hk2 o'
    · rw [if_neg g] at e
      have hj' : j < t.length := by simp at hj; omega
      by_cases g2 : k = t.length
      · rw [if_pos g2]
        intro e2
        exact (hd b o' e2).2 j hj' o e
      · rw [if_neg g2]
        have hk2 : k < t.length := by simp at hk'; omega
        exact h.dis j k hj' hk2 hne b o o' e
end Go.Tk
/- suite.copied, by hand. -/
set_option linter.unusedSimpArgs false
set_option linter.unusedVariables false
set_option linter.unnecessarySimpa false
set_option maxRecDepth 10000
set_option maxHeartbeats 1000000
namespace Go.Tk
open Go Go.RowKit
theorem bld_row (W : World) (a : Option Addr) (l c : Nat) : (Instr.buildSlice 22 1 #[(0, .slice a l c)]).run Go.Proofs.Try.prog W = .ok (.slice (some ⟨W.heap.size, 0, none⟩) 1 1) (W.alloc (.cells #[.slice a l c] 25)) := by
  obtain ⟨fi, z, i1, i2, i3, i4, i5⟩ := Go.Tk.elem_info (P := Go.Proofs.Try.prog) ((tyB_ok Go.Proofs.Try.prog tInts).1 25 (by kernel_rfl)) rfl
  have i3 : fi.size = 1 := i3
  refine run_buildSlice W _ 25 1 _ _ fi z (by kernel_rfl) i1 i2 (by rw [i3]; decide) (by rw [i3]; decide) ?_
  simp only [i3]
  exact Great.fill_flat [.slice a l c] _ (fun v hv => by rw [List.mem_singleton.1 hv]; rfl) (by simp)
theorem ste_row {w : World} {S : Nat → Prop} {t : Ste} {ao : Option Addr} {cap : Nat} (ht : (reps Go.Proofs.Try.prog tSte).c w S t [.slice ao t.length cap]) {m : Nat} (hm : m < t.length) :
    ∃ b off rv, ao = some ⟨b, off, none⟩ ∧ (∀ W, (Instr.indexAt 22 (.slice (some ⟨b, off, none⟩) t.length cap) (.int .i64 m)).run Go.Proofs.Try.prog W = .ok (.pointer (some ⟨b, off + m, none⟩)) W) ∧ (∀ W, Below w.heap.size w W → W.cell? ⟨b, off + m, none⟩ = some rv) ∧ (∀ W, Below w.heap.size w W → (reps Go.Proofs.Try.prog tInts).c W S (t.getD m []) [rv]) := by
  obtain ⟨tv', etv, ao', cap', e2, h1, h2, h3⟩ := ht
  cases etv
  cases e2
  rcases h3 with e | ⟨b, off, cs, rfl, hS, hb, hc, h4⟩
  · have e : t = [] := e
    rw [e] at hm; simp at hm
  have hn : ∀ (r : List Int) cs, (reps Go.Proofs.Try.prog tInts).c w S r cs → cs.length = 1 := fun r cs h => by
    obtain ⟨u, rfl, _⟩ := h; rfl
  have hx : t[m]? = some (t.getD m []) := by simp [List.getD_eq_getElem?_getD, hm]
  have hg := repL_get hn t cs h4 m _ hx
  rw [Nat.mul_one] at hg
  obtain ⟨u, eu, hu⟩ := hg
  have hcm : cs[m]? = some u := by
    have := congrArg (fun l => l[0]?) eu
    simpa [List.getElem?_take, List.getElem?_drop] using this
  refine ⟨b, off, u, rfl, fun W => ?_, fun W hW => ?_, fun W hW => ?_⟩
  · obtain ⟨e, t1, t2⟩ := ty_sl ((tyB_ok Go.Proofs.Try.prog tSte).1 22 (by kernel_rfl))
    have := run_index_sl (w := W) t1 t2 (b := b) (off := off) (len := t.length) (cap := cap) (n := (m : Int)) (by omega) (by omega)
    rw [Int.toNat_natCast, show T.csize tInts = 1 from rfl, Nat.mul_one] at this
    exact this
  · exact (hc.keep fun _ => hW.block b hb) m u hcm
  · exact c_keep tInts ⟨u, rfl, hu⟩ ⟨hW.size, fun b hb' _ => hW.block b hb'.lt⟩ fun _ _ h => h
def copiedPost (w : World) (t : Ste) : Ending → World → Prop := fun e w' => ∃ v ob vs os, e = .returned v ∧ NestW w.heap.size w' t v ob vs os ∧ Below w.heap.size w w'
theorem copied_call {w : World} {S : Nat → Prop} {t : Ste} {tv : Value} (ht : (reps Go.Proofs.Try.prog tSte).c w S t [tv]) (hlen : t.length ≤ 900) (hrow : ∀ r ∈ t, r.length ≤ 1000) :
    Calls Go.Proofs.Try.prog 85 #[tv] w (copiedPost w t) := by
  have ht0 := ht
  obtain ⟨tv', etv, ao, cap, e2, h1, h2, h3⟩ := ht
  cases etv
  have e2 : tv = .slice ao t.length cap := e2
  subst e2
  have keepT : ∀ {W : World}, Below w.heap.size w W → (reps Go.Proofs.Try.prog tSte).c W S t [.slice ao t.length cap] := fun hb => c_keep tSte ht0 ⟨hb.size, fun b hb' _ => hb.block b hb'.lt⟩ fun _ _ h => h
  go_enter Go.Proofs.Try.func85, Go.Proofs.Try.ntmps85
  refine (wpIn_wide (n := 0)).1 ?_
  show Code.wpIn (Fw none) 0 _ _ _ _ _
  refine wpIn_seq (ql_region rfl ?_)
  simp [ql, go_sem, Exit.then]
  refine wpIn_seq (ql_region rfl ?_)
  simp [ql, go_sem, Exit.then]
  refine wpIn_seq (wpIn_seq (ql_region rfl ?_))
  simp [ql, go_sem, Exit.then]
  refine wpIn_block (wp_loopAt ?_)
  obtain ⟨A, hA⟩ : ∃ A : Nat → Act → World → Prop, A = fun m a W => ∃ x1 x2 x4 x5 x9 x10 x11 x12 x13 x14 x15 x16 x17 x18 : Value, ∃ v ob vs os, a = ⟨#[.slice ao t.length cap, x1, x2, v, x4, x5, .slice ao t.length cap, .int .i64 t.length, .int .i64 m, x9, x10, x11, x12, x13, x14, x15, x16, x17, x18], []⟩ ∧ NestW w.heap.size W (t.take m) v ob vs os ∧ Below w.heap.size w W := ⟨_, rfl⟩
  refine loop_upX (n := t.length) A ?_ ?_ 0 (by omega) _ _ (by rw [hA]; exact ⟨_, _, _, _, _, _, _, _, _, _, _, _, _, _, .slice none 0 0, none, [], [], rfl, ⟨rfl, rfl, .inl ⟨rfl, rfl, rfl⟩, fun j hj => by simp at hj, fun j hj => by simp at hj, fun j k hj => by simp at hj⟩, Below.refl _ _⟩)
  · intro a W hh
    rw [hA] at hh
    obtain ⟨x1, x2, x4, x5, x9, x10, x11, x12, x13, x14, x15, x16, x17, x18, v, ob, vs, os, rfl, hN, hb⟩ := hh
    refine wpIn_seq (ql_region rfl ?_)
    simp [ql, go_sem, Exit.then]
    refine wpIn_seq (wpIn_cond_false (by simp [Act.eval]) (wpIn_exit ?_))
    simp only [Exit.then, Exit.inBlock, if_true]
    refine wpIn_seq (ql_region rfl ?_)
    simp [ql, go_sem, Exit.then]
    refine wpIn_ret ?_
    rw [List.take_length] at hN
    exact ⟨rfl, _, results_tmp rfl _ _ _, v, ob, vs, os, rfl, hN, hb⟩
  · intro m a W hm hh
    rw [hA] at hh
    obtain ⟨x1, x2, x4, x5, x9, x10, x11, x12, x13, x14, x15, x16, x17, x18, v, ob, vs, os, rfl, hN, hb⟩ := hh
    refine wpIn_seq (ql_region rfl ?_)
    simp [ql, go_sem, Exit.then]
    refine wpIn_seq (wpIn_cond_true (by simp [Act.eval]; omega) (wpIn_skip ?_))
    simp only [Exit.then]
    obtain ⟨b0, off0, rv, rfl, hix, hcell, hrv⟩ := ste_row ht0 hm
    have hc : W.cell? ⟨b0, off0 + m, none⟩ = some rv := hcell W hb
    refine wpIn_seq (wpIn_block (wpIn_seq (ql_region rfl ?_)))
    simp [ql, go_sem, Exit.then, hix, hc]
    have hrr := hrv W hb
    refine ql_pre 4 (by decide) rfl ?_
    simp [ql, go_sem]
    refine (clone_call hrr (by have := hrow _ (mem_getD (d := []) hm); omega)).mono ?_
    rintro e W2 ⟨nv, nob, rfl, hown, hfr, hb2⟩
    obtain ⟨na, nl, nc, rfl⟩ : ∃ na nl nc, nv = .slice na nl nc := by
      rcases hown with ⟨rfl, _⟩ | ⟨_, _, _, _, _, _, rfl, _⟩ <;> exact ⟨_, _, _, rfl⟩
    simp [ql, go_sem, bld_row]
    generalize hW3 : W2.alloc (.cells _ _) = W3
    have hself := heap_self W2 (.cells #[.slice na nl nc] 25)
    rw [hW3] at hself
    have hb3 : Below W2.heap.size W2 W3 := by rw [← hW3]; exact (Below.refl _ W2).alloc (Nat.le_refl _) _
    have hs1 := hb.size
    have hs2 := hb2.size
    have hs3 := hb3.size
    have hN3 := (hN.below hb2).below hb3
    have hown3 : repOwn rI 1 W3 (fun b => w.heap.size ≤ b) (t.getD m []) (.slice na nl nc) nob := own_S (own_blk hown fun b o e => hb3.block b (own_lt (e ▸ hown)).1) fun b o e => by have := hfr b o e; omega
    have hvl : vs.length = m := by rw [hN.lenv, List.length_take]; omega
    have htl : (t.take m).length = m := by rw [List.length_take]; omega
    obtain ⟨v', W4, ob', hrun, ho, a1, a2, a3, a4, a5, a6⟩ := app_val (ty := 22) hN3.out (fun x hx => by
      obtain ⟨j, hj, rfl⟩ := List.getElem_of_mem hx
      have := own_one (hN3.row j (by rw [htl]; omega))
      rwa [List.getD_eq_getElem?_getD, List.getElem?_eq_getElem hj] at this) (own_one hown) (by omega) hself
    have hold : ∀ j, j < (t.take m).length → ∀ b o, os.getD j none = some (b, o) → b < W.heap.size := fun j hj b o e => (own_lt (e ▸ hN.row j hj)).1
    have hoo : ∀ b o, ob = some (b, o) → b < W.heap.size := fun b o e => (own_lt (e ▸ hN.out)).1
    have hN4 := hN3.snoc hown3 (fun b o e => ⟨fun o' e' => by have := hfr b o e; have := hoo b o' e'; omega, fun j hj o' e' => by have := hfr b o e; have := hold j hj b o' e'; omega⟩) (by omega) ho a5 a6
    rw [← take_snoc [] hm] at hN4
    have hb4 : Below w.heap.size w W4 := by
      have hb03 := (hb.trans (hb2.mono hb.size)).trans (hb3.mono (by omega))
      exact ⟨a1.trans hb03.os, a2.trans hb03.tape, a3.trans hb03.output, Nat.le_trans hb03.size a4, fun i hi => (a5 i (by omega) fun o e => by have := (own_lt (e ▸ hN3.out)).2; omega).trans (hb03.block i hi)⟩
    show wpOpsIn _ _ _ _ _ [4, 5] _ _
    refine sp_val (v := v') (w1 := W4) rfl rfl (run_app2 rfl (by simp [Act.eval]) (by simp [Act.eval]) hrun) ?_
    refine tail_ops 5 1 rfl ?_
    simp [qlg, Region.wanted, yielded, go_sem, Exit.then, Exit.inBlock]
    refine ql_region rfl ?_
    simp [ql, go_sem, Exit.then, Exit.inBlock]
    rw [show IntKind.i64.wrap ((m : Int) + 1) = ((m + 1 : Nat) : Int) from wrap_in (by unfold inI; omega), hA]
    exact ⟨_, _, _, _, _, _, _, _, _, _, _, _, _, _, v', ob', _, _, rfl, hN4, hb4⟩
end Go.Tk
/- suite.Drop, by hand. -/
set_option linter.unusedSimpArgs false
set_option linter.unusedVariables false
set_option linter.unnecessarySimpa false
set_option maxRecDepth 10000
set_option maxHeartbeats 1000000
namespace Go.Tk
open Go Go.RowKit
def dropE (t : Ste) (g : Int) : Int := if validT t = 0 then (if 0 ≤ g ∧ g < (goals8 t : Int) then 0 else 4) else validT t
theorem del_call {w : World} {xs : List Int} {v : Value} {ob : OB} {g : Nat} (h : repOwn rI 1 w (fun _ => True) xs v ob) (hg : g < xs.length) (hl : xs.length ≤ 1000000) :
    Calls Go.Proofs.Try.prog 86 #[v, .int .i64 (g : Int), .int .i64 ((g : Int) + 1)] w fun e w' => ∃ v' ob', e = .returned v' ∧ repOwn rI 1 w' (fun _ => True) (cutG g xs) v' ob' ∧ (∀ b o, ob' = some (b, o) → w.heap.size ≤ b ∨ ∃ o', ob = some (b, o')) ∧ OwnBut w w' ob := by
  refine ((cDelI_ok.2 : InF _ _ cDelI) w (fun _ => False) xs ((g : Int), (g : Int) + 1, ()) v ob [.int .i64 (g : Int), .int .i64 ((g : Int) + 1)] h (fun _ _ _ h => h) ⟨_, [_], [], [], rfl, rfl, ⟨rfl, [_], rfl, rfl, show inI (g : Int) by unfold inI; omega⟩, _, [], [], [], rfl, rfl, ⟨rfl, [_], rfl, rfl, show inI ((g : Int) + 1) by unfold inI; omega⟩, rfl, rfl⟩ ⟨show (0 : Int) ≤ g by omega, show (g : Int) < (g : Int) + 1 by omega, show (g : Int) + 1 ≤ xs.length by omega⟩).mono ?_
  rintro e w' ⟨v', ob', he, h1, h2, h3⟩
  exact ⟨v', ob', he, h1, h2, h3⟩
theorem own_out {w : World} {S : Nat → Prop} {vs : List Value} {v : Value} {ob : OB} (h : repOwn rV 1 w S vs v ob) {j : Nat} (hj : j < vs.length) :
    ∃ b off cap cur e, ob = some (b, off) ∧ v = .slice (some ⟨b, off, none⟩) vs.length cap ∧ w.heap[b]? = some (.cells cur e (0, 0)) ∧ off + j < cur.size ∧ cur[off + j]? = some (vs.getD j undef) ∧ ∀ (w' : World) nv, w'.heap[b]? = some (.cells (cur.setIfInBounds (off + j) nv) e (0, 0)) → repOwn rV 1 w' S (vs.set j nv) v ob := by
  rcases h with ⟨_, rfl, _⟩ | ⟨b, off, cap, cur, e, rfl, rfl, g3, g4, g5, g6, g7, g8⟩
  · simp at hj
  · have hc := repL_map (f := fun v => v) (fun x cs h => h) vs _ g8
    rw [List.map_id', Nat.mul_one] at hc
    have hsz : off + j < cur.size := by omega
    refine ⟨b, off, cap, cur, e, rfl, rfl, g4, hsz, ?_, fun w' nv hw' => ?_⟩
    · have h1 := congrArg (fun l => l[j]?) hc
      simp only [List.getElem?_take, List.getElem?_drop] at h1
      rw [if_pos (by omega)] at h1
      rw [← Array.getElem?_toList, h1]
      simp [List.getD_eq_getElem?_getD, hj]
    · refine .inr ⟨b, off, cap, _, e, rfl, by rw [List.length_set], g3, hw', by rw [List.length_set]; exact g5, by rw [List.length_set]; exact g6, by rw [Array.size_setIfInBounds]; exact g7, ?_⟩
      have e1 : (((cur.setIfInBounds (off + j) nv).toList.drop off).take ((vs.set j nv).length * 1)) = vs.set j nv := by
        rw [List.length_set, Nat.mul_one, Array.toList_setIfInBounds, List.drop_set, if_neg (by omega), List.take_set, Nat.add_sub_cancel_left, hc]
      rw [e1]
      have := repL_of_map (R := rV) (f := fun v => v) (vs.set j nv) fun x _ => rfl
      rwa [List.map_id'] at this
theorem getD_set {α : Type} (l : List α) (x d : α) (j k : Nat) (hj : j < l.length) : (l.set j x).getD k d = if k = j then x else l.getD k d := by
  rw [List.getD_eq_getElem?_getD, List.getElem?_set, List.getD_eq_getElem?_getD]
  by_cases h : j = k
  · subst h; simp [hj]
  · rw [if_neg h, if_neg (fun e => h e.symm)]
theorem NestW.set {lo : Nat} {w w' : World} {t : Ste} {v nv : Value} {ob nob : OB} {vs : List Value} {os : List OB} {xs : List Int} {j : Nat} (h : NestW lo w t v ob vs os) (hj : j < t.length) (hlo : lo ≤ w.heap.size) (ho : repOwn rV 1 w' (fun b => lo ≤ b) (vs.set j nv) v ob) (hr : repOwn rI 1 w' (fun _ => True) xs nv nob) (hn : ∀ b o, nob = some (b, o) → w.heap.size ≤ b ∨ ∃ o', os.getD j none = some (b, o'))
    (hk : ∀ i, i < w.heap.size → (∀ o, ob ≠ some (i, o)) → (∀ o, os.getD j none ≠ some (i, o)) → w'.heap[i]? = w.heap[i]?) : NestW lo w' (t.set j xs) v ob (vs.set j nv) (os.set j nob) := by
  have lv := h.lenv
  have ll := h.leno
  have hold : ∀ k, k < t.length → ∀ b o, os.getD k none = some (b, o) → b < w.heap.size ∧ lo ≤ b := fun k hk b o e => own_lt (e ▸ h.row k hk)
  have hout : ∀ b o, ob = some (b, o) → b < w.heap.size := fun b o e => (own_lt (e ▸ h.out)).1
  refine ⟨by simp [lv], by simp [ll], ho, fun k hk' => ?_, fun k hk' b o e => ?_, fun k m hk' hm hne b o o' e => ?_⟩
  · rw [List.length_set] at hk'
    rw [getD_set _ _ _ _ _ hj, getD_set _ _ _ _ _ (by omega), getD_set _ _ _ _ _ (by omega)]
    by_cases g : k = j
    · rw [if_pos g, if_pos g, if_pos g]
      refine own_S hr fun b o e => ?_
      rcases hn b o e with g | ⟨o', g⟩
      · omega
      · exact (hold j hj b o' g).2
    · rw [if_neg g, if_neg g, if_neg g]
      exact own_blk (h.row k hk') fun b o e => hk b (hold k hk' b o e).1 (h.sep k hk' b o e) fun o' e' => h.dis k j hk' hj g b o o' e e'
  · rw [List.length_set] at hk'
    rw [getD_set _ _ _ _ _ (by omega)] at e
    intro o' e'
    by_cases g : k = j
    · rw [if_pos g] at e
      rcases hn b o e with g | ⟨o2, g⟩
      · have := hout b o' e'; omega
      · exact h.sep j hj b o2 g o' e'
    · rw [if_neg g] at e
      exact h.sep k hk' b o e o' e'
  · rw [List.length_set] at hk' hm
    rw [getD_set _ _ _ _ _ (by omega)] at e ⊢
    by_cases g : k = j
    · rw [if_pos g] at e
      rw [if_neg (by omega)]
      intro e'
      rcases hn b o e with g | ⟨o2, g⟩
      · have := (hold m hm b o' e').1; omega
      · exact h.dis j m hj hm (by omega) b o2 o' g e'
    · rw [if_neg g] at e
      by_cases g2 : m = j
      · rw [if_pos g2]
        intro e'
        rcases hn b o' e' with g3 | ⟨o2, g3⟩
        · have := (hold k hk' b o e).1; omega
        · exact h.dis k j hk' hj g b o o2 e g3
      · rw [if_neg g2]
        exact h.dis k m hk' hm hne b o o' e
theorem NestW.data {lo : Nat} {w : World} {t : Ste} {v : Value} {ob : OB} {vs : List Value} {os : List OB} (h : NestW lo w t v ob vs os) : (reps Go.Proofs.Try.prog tSte).c w (fun b => lo ≤ b) t [v] := by
  have lv := h.lenv
  have hrow : ∀ j, j < t.length → (reps Go.Proofs.Try.prog tInts).c w (fun b => lo ≤ b) (t.getD j []) [vs.getD j undef] := fun j hj => ⟨_, rfl, repSl_of_own (h.row j hj) (fun b o e => (own_lt (e ▸ h.row j hj)).2) fun _ _ h => h⟩
  refine ⟨v, rfl, ?_⟩
  rcases h.out with ⟨rfl, rfl, _⟩ | ⟨b, off, cap, cur, e, g1, rfl, g3, g4, g5, g6, g7, g8⟩
  · have : t = [] := List.length_eq_zero_iff.1 (by rw [← lv]; rfl)
    subst this
    exact ⟨none, 0, rfl, Nat.le_refl _, by simp, .inl rfl⟩
  · have hc := repL_map (f := fun v => v) (fun x cs h => h) vs _ g8
    rw [List.map_id', Nat.mul_one] at hc
    refine ⟨_, cap, by rw [lv], by rw [← lv]; exact g5, by rw [← lv]; exact g6.1, ?_⟩
    by_cases h0 : t = []
    · exact .inl h0
    · refine .inr ⟨b, off, vs, rfl, g3, (Array.getElem?_eq_some_iff.1 g4).1, fun j u hu => ?_, ?_⟩
      · have hj : j < vs.length := (List.getElem?_eq_some_iff.1 hu).1
        have h1 := congrArg (fun l => l[j]?) hc
        simp only [List.getElem?_take, List.getElem?_drop] at h1
        rw [if_pos hj, hu] at h1
        rw [row_cell g4, ← Array.getElem?_toList]; exact h1
      · refine repL_one t vs vs (by
          have := repL_of_map (R := rV) (f := fun v => v) vs fun x _ => rfl
          rwa [List.map_id'] at this) lv fun n x u hx hu => ?_
        have hn : n < t.length := (List.getElem?_eq_some_iff.1 hx).1
        have := hrow n hn
        rw [List.getD_eq_getElem?_getD, List.getD_eq_getElem?_getD, hx, hu] at this
        exact this
theorem valS_call {w : World} {S : Nat → Prop} {t : Ste} {v : Value} (ht : (reps Go.Proofs.Try.prog tSte).c w S t [v]) :
    Calls Go.Proofs.Try.prog 35 #[v] w fun e w' => e = .returned (.int .i64 (validT t)) ∧ inI (validT t) ∧ Below w.heap.size w w' := by
  refine ((cVal8_ok.1 rfl) w S (t, ()) [v] ⟨v, [], [], [], rfl, rfl, ⟨rfl, [v], rfl, ht⟩, rfl, rfl⟩ trivial).mono ?_
  rintro e w' ⟨rs, bs, rfl, ⟨u, us, _, _, rfl, _, ⟨_, cs, rfl, rfl, hi⟩, rfl, _⟩, _, _, hb⟩
  exact ⟨rfl, hi, hb⟩
theorem goals_call {w : World} {S : Nat → Prop} {t : Ste} {v : Value} (ht : (reps Go.Proofs.Try.prog tSte).c w S t [v]) :
    Calls Go.Proofs.Try.prog 82 #[v] w fun e w' => e = .returned (.int .i64 (goals8 t : Int)) ∧ inI (goals8 t : Int) ∧ Below w.heap.size w w' := by
  refine ((cGoals8_ok.1 rfl) w S (t, ()) [v] ⟨v, [], [], [], rfl, rfl, ⟨rfl, [v], rfl, ht⟩, rfl, rfl⟩ trivial).mono ?_
  rintro e w' ⟨rs, bs, rfl, ⟨u, us, _, _, rfl, _, ⟨_, cs, rfl, rfl, hi⟩, rfl, _⟩, _, _, hb⟩
  exact ⟨rfl, hi, hb⟩
theorem within_call {w : World} {n lo hi : Int} (h1 : inI n) (h2 : inI lo) (h3 : inI hi) :
    Calls Go.Proofs.Try.prog 84 #[.int .i64 n, .int .i64 lo, .int .i64 hi] w fun e w' => e = .returned (.bool (within n lo hi)) ∧ Below w.heap.size w w' := by
  refine ((cWithin8_ok.1 rfl) w (fun _ => True) (n, lo, hi, ()) [.int .i64 n, .int .i64 lo, .int .i64 hi] ⟨_, [_, _], [], [], rfl, rfl, ⟨rfl, [_], rfl, rfl, h1⟩, _, [_], [], [], rfl, rfl, ⟨rfl, [_], rfl, rfl, h2⟩, _, [], [], [], rfl, rfl, ⟨rfl, [_], rfl, rfl, h3⟩, rfl, rfl⟩ trivial).mono ?_
  rintro e w' ⟨rs, bs, rfl, ⟨u, us, _, _, rfl, _, ⟨_, cs, rfl, rfl⟩, rfl, _⟩, _, _, hb⟩
  exact ⟨rfl, hb⟩
end Go.Tk
/- suite.Drop, by hand. -/
set_option linter.unusedSimpArgs false
set_option linter.unusedVariables false
set_option linter.unnecessarySimpa false
set_option maxRecDepth 10000
set_option maxHeartbeats 1000000
namespace Go.Tk
open Go Go.RowKit
theorem NestW.mono_lo {lo lo' : Nat} {w : World} {t : Ste} {v : Value} {ob : OB} {vs : List Value} {os : List OB} (h : NestW lo w t v ob vs os) (hl : lo' ≤ lo) : NestW lo' w t v ob vs os :=
  ⟨h.lenv, h.leno, own_S h.out fun b o e => Nat.le_trans hl (own_lt (e ▸ h.out)).2, fun j hj => own_S (h.row j hj) fun b o e => Nat.le_trans hl (own_lt (e ▸ h.row j hj)).2, h.sep, h.dis⟩
def dropPost (w : World) (t : Ste) (goal : Int) : Ending → World → Prop := fun e w' => ∃ v, e = .returned (.tuple #[v, .int .i64 (dropE t goal)]) ∧ (reps Go.Proofs.Try.prog tSte).c w' (fun b => w.heap.size ≤ b) (if dropE t goal = 0 then dropT t goal.toNat else []) [v] ∧ inI (dropE t goal) ∧ Below w.heap.size w w'
theorem nil_ste {w : World} {S : Nat → Prop} : (reps Go.Proofs.Try.prog tSte).c w S [] [.slice none 0 0] := ⟨_, rfl, none, 0, rfl, Nat.le_refl _, by simp, .inl rfl⟩
theorem map_part (t : Ste) (f : List Int → List Int) {m : Nat} (hm : m < t.length) : (((t.take m).map f) ++ t.drop m).set m (f (t.getD m [])) = ((t.take (m + 1)).map f) ++ t.drop (m + 1) := by
  have hd : t.drop m = t.getD m [] :: t.drop (m + 1) := by rw [List.drop_eq_getElem_cons hm]; simp [List.getD_eq_getElem?_getD, hm]
  have hl : ((t.take m).map f).length = m := by rw [List.length_map, List.length_take]; omega
  rw [hd, List.set_append_right _ _ (by omega), hl, Nat.sub_self, take_snoc [] hm, List.map_append]
  simp
theorem drop_call {w : World} {S : Nat → Prop} {t : Ste} {goal : Int} {tv : Value} (ht : (reps Go.Proofs.Try.prog tSte).c w S t [tv]) (hg : inI goal) :
    Calls Go.Proofs.Try.prog 37 #[tv, .int .i64 goal] w (dropPost w t goal) := by
  have ht0 := ht
  obtain ⟨tv', etv, ao, cap, e2, h1, h2, h3⟩ := ht
  cases etv
  have e2 : tv = .slice ao t.length cap := e2
  subst e2
  have keepT : ∀ {W : World}, Below w.heap.size w W → (reps Go.Proofs.Try.prog tSte).c W S t [.slice ao t.length cap] := fun hb => c_keep tSte ht0 ⟨hb.size, fun b hb' _ => hb.block b hb'.lt⟩ fun _ _ h => h
  go_enter Go.Proofs.Try.func37, Go.Proofs.Try.ntmps37
  refine (wpIn_wide (n := 0)).1 ?_
  show Code.wpIn (Fw none) 0 _ _ _ _ _
  refine wpIn_seq (ql_region rfl ?_)
  simp [ql, go_sem, Exit.then]
  refine wpIn_seq (wpIn_seq (ql_region rfl ?_))
  simp [ql, go_sem, Exit.then]
  refine (valS_call ht0).mono ?_
  rintro e W1 ⟨rfl, hi1, hb1⟩
  have hres : ∀ (tm : Array Value) (W : World), (results Go.Proofs.Try.f37 tm).run Go.Proofs.Try.prog W = .ok (.tuple #[tm.getD 4 undef, tm.getD 5 undef]) W := fun tm W => by simp [results, Go.Proofs.Try.results37, go_sem]
  by_cases c1 : validT t = 0
  case neg =>
    have hE : dropE t goal = validT t := by unfold dropE; rw [if_neg c1]
    simp [ql, go_sem, Exit.then, c1]
    refine wpIn_seq (ql_region rfl ?_)
    simp [ql, go_sem, Exit.then, c1]
    refine wpIn_cond_true (by simp [Act.eval, c1]) (wpIn_seq (ql_region rfl ?_))
    simp [ql, go_sem, Exit.then]
    refine wpIn_ret ?_
    refine ⟨rfl, _, hres _ _, .slice none 0 0, by rw [hE]; rfl, ?_, by rw [hE]; exact hi1, hb1⟩
    rw [if_neg (by rw [hE]; exact c1)]
    exact nil_ste
  have hok := validT_ok.1 c1
  simp [ql, go_sem, Exit.then, c1]
  refine wpIn_seq (ql_region rfl ?_)
  simp [ql, go_sem, Exit.then, c1]
  refine wpIn_cond_false (by simp [Act.eval]) (wpIn_skip ?_)
  simp only [Exit.then]
  refine wpIn_seq (wpIn_seq (ql_region rfl ?_))
  simp [ql, go_sem, Exit.then]
  refine (goals_call (keepT hb1)).mono ?_
  rintro e W2 ⟨rfl, hi2, hb2⟩
  have h10 := hok.2.1
  simp [ql, go_sem, Exit.then]
  rw [show IntKind.i64.wrap ((goals8 t : Int) - 1) = (goals8 t : Int) - 1 from wrap_in (by unfold inI; omega)]
  refine (within_call hg (show inI 0 by unfold inI; omega) (show inI ((goals8 t : Int) - 1) by unfold inI; omega)).mono ?_
  rintro e W3 ⟨rfl, hb3⟩
  have hb03 := (hb1.trans (hb2.mono hb1.size)).trans (hb3.mono (Nat.le_trans hb1.size hb2.size))
  by_cases c2 : within goal 0 ((goals8 t : Int) - 1) = true
  case neg =>
    have hE : dropE t goal = 4 := by
      unfold dropE
      rw [if_pos c1, if_neg (fun h => c2 (within_iff.2 ⟨h.1, by omega⟩))]
    simp [ql, go_sem, Exit.then, c2]
    refine wpIn_cond_true (by simp [Act.eval, c2]) (wpIn_seq (ql_region rfl ?_))
    simp [ql, go_sem, Exit.then]
    refine wpIn_ret ?_
    refine ⟨rfl, _, hres _ _, .slice none 0 0, by rw [hE]; rfl, ?_, by rw [hE]; unfold inI; omega, hb03⟩
    rw [if_neg (by rw [hE]; omega)]
    exact nil_ste
  have hgw := within_iff.1 c2
  have hE : dropE t goal = 0 := by
    unfold dropE
    rw [if_pos c1, if_pos ⟨hgw.1, by omega⟩]
  obtain ⟨g, rfl⟩ : ∃ g : Nat, goal = g := ⟨goal.toNat, by omega⟩
  have hrl : ∀ r ∈ t, r.length = goals8 t := fun r hr => (hok.2.2 r hr).1
  have h8 := hok.1
  simp [ql, go_sem, Exit.then, c2]
  refine wpIn_cond_false (by simp [Act.eval, c2]) (wpIn_skip ?_)
  simp only [Exit.then]
  refine wpIn_seq (ql_region rfl ?_)
  simp [ql, go_sem, Exit.then]
  refine (copied_call (keepT hb03) (by omega) (fun r hr => by rw [hrl r hr]; omega)).mono ?_
  rintro e W4 ⟨v, ob, vs, os, rfl, hN, hb4⟩
  have hs3 := hb03.size
  have hb04 := hb03.trans (hb4.mono hs3)
  have hN : NestW w.heap.size W4 t v ob vs os := hN.mono_lo hs3
  obtain ⟨va, vc, hv⟩ : ∃ va vc, v = .slice va t.length vc := by
    rcases hN.out with ⟨h, h', _⟩ | ⟨b, off, cap, cur, e, _, h, _⟩
    · have : t.length = 0 := by rw [← hN.lenv, h']; rfl
      exact ⟨none, 0, by rw [h, this]⟩
    · exact ⟨_, _, by rw [h, hN.lenv]⟩
  subst hv
  simp [ql, go_sem, Exit.then]
  refine wpIn_seq (wpIn_seq (ql_region rfl ?_))
  simp [ql, go_sem, Exit.then]
  refine wpIn_block (wp_loopAt ?_)
  obtain ⟨A, hA⟩ : ∃ A : Nat → Act → World → Prop, A = fun m a W => ∃ x2 x3 x4 x5 x6 x8 x9 x10 x11 x12 x13 x14 x15 x16 x17 x18 x19 x20 x21 x22 x25 x26 x27 x28 x29 x30 x31 x32 x33 x34 x35 x36 x37 x38 x39 : Value, a = ⟨#[.slice ao t.length cap, .int .i64 (g : Int), x2, x3, x4, x5, x6, .slice va t.length vc, x8, x9, x10, x11, x12, x13, x14, x15, x16, x17, x18, x19, x20, x21, x22, .int .i64 t.length, .int .i64 m, x25, x26, x27, x28, x29, x30, x31, x32, x33, x34, x35, x36, x37, x38, x39], []⟩ ∧ ∃ vs os, NestW w.heap.size W ((t.take m).map (cutG g) ++ t.drop m) (.slice va t.length vc) ob vs os ∧ Below w.heap.size w W := ⟨_, rfl⟩
  refine loop_upX (n := t.length) A ?_ ?_ 0 (by omega) _ _ (by rw [hA]; exact ⟨_, _, _, _, _, _, _, _, _, _, _, _, _, _, _, _, _, _, _, _, _, _, _, _, _, _, _, _, _, _, _, _, _, _, _, rfl, vs, os, by simpa using hN, hb04⟩)
  · intro a W hh
    rw [hA] at hh
    obtain ⟨x2, x3, x4, x5, x6, x8, x9, x10, x11, x12, x13, x14, x15, x16, x17, x18, x19, x20, x21, x22, x25, x26, x27, x28, x29, x30, x31, x32, x33, x34, x35, x36, x37, x38, x39, rfl, vs, os, hN, hb⟩ := hh
    refine wpIn_seq (ql_region rfl ?_)
    simp [ql, go_sem, Exit.then]
    refine wpIn_seq (wpIn_cond_false (by simp [Act.eval]) (wpIn_exit ?_))
    simp only [Exit.then, Exit.inBlock, if_true]
    refine wpIn_seq (ql_region rfl ?_)
    simp [ql, go_sem, Exit.then]
    refine wpIn_ret ?_
    refine ⟨rfl, _, hres _ _, _, by rw [hE]; rfl, ?_, by rw [hE]; unfold inI; omega, hb⟩
    rw [if_pos hE, Int.toNat_natCast]
    rw [List.take_length, List.drop_length, List.append_nil] at hN
    exact hN.data
  · intro m a W hm hh
    rw [hA] at hh
    obtain ⟨x2, x3, x4, x5, x6, x8, x9, x10, x11, x12, x13, x14, x15, x16, x17, x18, x19, x20, x21, x22, x25, x26, x27, x28, x29, x30, x31, x32, x33, x34, x35, x36, x37, x38, x39, rfl, vs, os, hN, hb⟩ := hh
    have hlt : ((t.take m).map (cutG g) ++ t.drop m).length = t.length := by simp; omega
    have hvl : vs.length = t.length := by rw [hN.lenv, hlt]
    refine wpIn_seq (ql_region rfl ?_)
    simp [ql, go_sem, Exit.then]
    refine wpIn_seq (wpIn_cond_true (by simp [Act.eval]; omega) (wpIn_skip ?_))
    simp only [Exit.then]
    refine wpIn_seq (wpIn_block (wpIn_seq (ql_region rfl ?_)))
    simp [ql, go_sem, Exit.then]
    obtain ⟨bo, off, cap', cur, et, rfl, hva, k1, k2, k3, k4⟩ := own_out hN.out (j := m) (by omega)
    rw [hvl] at hva
    cases hva
    obtain ⟨e25, t1, t2⟩ := ty_sl ((tyB_ok Go.Proofs.Try.prog tSte).1 22 (by kernel_rfl))
    have hix := fun W : World => run_index_sl (w := W) t1 t2 (b := bo) (off := off) (len := t.length) (cap := vc) (n := (m : Int)) (by omega) (by omega)
    rw [Int.toNat_natCast, show T.csize tInts = 1 from rfl, Nat.mul_one] at hix
    have hc : W.cell? ⟨bo, off + m, none⟩ = some (vs.getD m undef) := by rw [row_cell k1]; exact k3
    have hget : ((t.take m).map (cutG g) ++ t.drop m).getD m [] = t.getD m [] := by
      rw [List.getD_eq_getElem?_getD, List.getElem?_append_right (by simp; omega), List.getElem?_drop, List.getD_eq_getElem?_getD]
      congr 2
      simp; omega
    have hrow := hN.row m (by omega)
    rw [hget] at hrow
    refine ql_region rfl ?_
    simp [ql, go_sem, Exit.then, hix, hc]
    rw [show IntKind.i64.wrap ((g : Int) + 1) = (g : Int) + 1 from wrap_in (by unfold inI; omega)]
    have hml := hrl _ (mem_getD (d := []) hm)
    refine (del_call (own_S hrow fun _ _ _ => trivial) (by omega) (by omega)).mono ?_
    rintro e W5 ⟨nv, nob, rfl, hnew, hnb, hbut⟩
    have hs := hb.size
    have hs5 := hbut.size
    have hbo := (own_lt hN.out)
    have k1' : W5.heap[bo]? = some (.cells cur et (0, 0)) := (hbut.block bo hbo.1 fun o e => hN.sep m (by omega) bo o e off rfl).trans k1
    have cc : W5.cell? ⟨bo, off + m, none⟩ = some (vs.getD m undef) := by rw [row_cell k1']; exact k3
    have cf : W5.frozen? ⟨bo, off + m, none⟩ = false := row_warm k1'
    obtain ⟨na, nl, nc, rfl⟩ : ∃ na nl nc, nv = .slice na nl nc := by
      rcases hnew with ⟨rfl, _⟩ | ⟨_, _, _, _, _, _, rfl, _⟩ <;> exact ⟨_, _, _, rfl⟩
    simp [ql, go_sem, Exit.then, Exit.inBlock, hix, cc, cf]
    rw [setCell_eq_setRow W5 bo (off + m) cur et (0, 0) _ k1']
    refine ql_region rfl ?_
    simp [ql, go_sem, Exit.then]
    rw [show IntKind.i64.wrap ((m : Int) + 1) = ((m + 1 : Nat) : Int) from wrap_in (by unfold inI; omega), hA]
    have hrow6 := setRow_heap W5 bo _ (cur.setIfInBounds (off + m) (.slice na nl nc)) _ _ k1'
    have hoth : ∀ i, i ≠ bo → (W5.setRow bo (cur.setIfInBounds (off + m) (.slice na nl nc))).heap[i]? = W5.heap[i]? := fun i hi => setRow_other _ _ _ _ hi
    have hsz6 : (W5.setRow bo (cur.setIfInBounds (off + m) (.slice na nl nc))).heap.size = W5.heap.size := setRow_size _ _ _
    have hnbo : ∀ b o, nob = some (b, o) → b ≠ bo := fun b o e e' => by
      rcases hnb b o e with g1 | ⟨o', g1⟩
      · have := hbo.1; omega
      · exact hN.sep m (by omega) b o' g1 off (by rw [e'])
    have hN6 := hN.set (w' := W5.setRow bo (cur.setIfInBounds (off + m) (.slice na nl nc))) (j := m) (by omega) hs (k4 _ _ hrow6) (own_blk hnew fun b o e => hoth b (hnbo b o e)) hnb (fun i hi ho hr => (hoth i fun e => ho off (by rw [e])).trans (hbut.block i hi hr))
    rw [map_part t (cutG g) hm] at hN6
    refine ⟨_, _, _, _, _, _, _, _, _, _, _, _, _, _, _, _, _, _, _, _, _, _, _, _, _, _, _, _, _, _, _, _, _, _, _, rfl, _, _, hN6, ?_⟩
    refine ⟨hbut.os.trans hb.os, hbut.tape.trans hb.tape, hbut.output.trans hb.output, by rw [hsz6]; omega, fun i hi => ?_⟩
    rw [hoth i (by have := hbo.2; omega), hbut.block i (by omega) fun o e => by have := (own_lt (e ▸ hN.row m (by omega))).2; omega]
    exact hb.block i hi
end Go.Tk
/- tinkerref08.Copy; append where there is no room. -/
set_option linter.unusedSimpArgs false
set_option linter.unusedVariables false
set_option linter.unnecessarySimpa false
set_option maxRecDepth 10000
set_option maxHeartbeats 1000000
namespace Go.Tk
open Go Go.RowKit
abbrev cCopyR8 : Con := { A := (.cons (.sl (.sl .int)) .nil), R := (.cons (.osl (.sl .int)) .nil), pre := fun x => x.1.length ≤ 1000000 ∧ (∀ r' ∈ x.1, r'.length ≤ 1000000), F := fun x => (x.1, ()) }
def cCopyR8_0 (Λ1 : Int → (List (List Int)) → Prop) (t : (List (List Int))) (y0 : (List (List Int))) : Prop :=
  Λ1 (0 : Int) ([] : List (List Int))
def cCopyR8_1 (Λ1 : Int → (List (List Int)) → Prop) (t : (List (List Int))) (y0 : (List (List Int)))  (i_1 : Int) (out_1 : (List (List Int))) : Prop :=
  if (decide (i_1 < (List.length t : Int))) = true then (idx i_1 (List.length t : Int) ∧ (List.length ([] : List Int) + List.length (List.getD t (Int.toNat i_1) ([] : List Int)) ≤ 4294967296 ∧ (List.length out_1 + List.length ([(([] : List Int) ++ (List.getD t (Int.toNat i_1) ([] : List Int)))]) ≤ 4294967296 ∧ (inI (i_1 + (1 : Int)) ∧ Λ1 (i_1 + (1 : Int)) (out_1 ++ [(([] : List Int) ++ (List.getD t (Int.toNat i_1) ([] : List Int)))]))))) else out_1 = y0
theorem cCopyR8_law (h : ∀ (t : (List (List Int))), cCopyR8.A.wf (t, ()) → (t.length ≤ 1000000 ∧ (∀ r' ∈ t, r'.length ≤ 1000000)) → ∀ (Λ1 : Int → (List (List Int)) → Prop), (∀ (i_1 : Int) (out_1 : (List (List Int))), cCopyR8_1 Λ1 t t i_1 out_1 → Λ1 i_1 out_1) → cCopyR8_0 Λ1 t t) : ConOK Go.Proofs.Try.prog 40 cCopyR8 := by
  refine lawL (Γ := []) (Θ := Th) (n := 21) [([1, 1, 0, 1, 0], ⟨[(0, false), (3, true), (4, true)], [(3, true)]⟩)] trivial (by kernel_rfl) th_ok mix_ok Go.Proofs.Try.func40 (by kernel_rfl) ?_
  intro x hw hp Λ hC
  have h0 := h x.1 hw hp (fun i_1 out_1 => Λ [1, 1, 0, 1, 0] ([(0, .d false (.sl (.sl .int)) x.1), (3, .own 3 0), (4, .d true .int i_1)], [(3, .sl true (.sl .int) out_1)])) (fun i_1 out_1 hb => hC [1, 1, 0, 1, 0] ([(0, .d false (.sl (.sl .int)) x.1), (3, .own 3 0), (4, .d true .int i_1)], [(3, .sl true (.sl .int) out_1)]) (Eq.mpr (by kernel_rfl) hb))
  exact Eq.mpr (by kernel_rfl) h0
theorem cCopyR8_ok : ConOK Go.Proofs.Try.prog 40 cCopyR8 := by
  refine cCopyR8_law ?_
  intro t hw hp Λ1 h1
  unfold cCopyR8_0
  refine upto (n := t.length) (Q := fun i => Λ1 (i : Int) (t.take i)) ?_ ?_ 0 (Nat.zero_le _)
  · apply h1; unfold cCopyR8_1
    rw [if_neg (by simp), List.take_length]
  · intro i hi ih
    apply h1; unfold cCopyR8_1
    rw [if_pos (by simpa using hi), Int.toNat_natCast]
    rw [take_snoc [] hi] at ih
    have := hp.1
    have := hp.2 _ (mem_getD (d := []) hi)
    refine ⟨idx_nat hi, by simp only [List.length_nil]; omega, ?_, by unfold inI; omega, ih⟩
    rw [List.length_take]; simp; omega
theorem app_lim {w : World} {t e ty : TypeId} {a : T} (h1 : Go.Proofs.Try.prog.underlying t = some (.slice e)) (h2 : (tys Go.Proofs.Try.prog a).ty e) (hz : a.hasZero = true) (hc1 : a.csize = 1) {cs1 cs2 : List Value} {b off b2 off2 cap2 : Nat} (hx : cellsAt w b off cs1) (hy : cellsAt w b2 off2 cs2) (hne : cs2 ≠ []) (hl1 : cs1.length ≤ 1000) (hl2 : cs2.length ≤ 1000) (hcap : cs2.length ≤ cap2) :
    ∃ w' cap' cur, (Builtin.append_ #[t, t] ty #[.slice (some ⟨b, off, none⟩) cs1.length cs1.length, .slice (some ⟨b2, off2, none⟩) cs2.length cap2]).run Go.Proofs.Try.prog w = .ok (.slice (some ⟨w.heap.size, 0, none⟩) (cs1.length + cs2.length) cap') w' ∧ w'.heap[w.heap.size]? = some (.cells cur e (0, 0)) ∧
      cs1.length + cs2.length ≤ cap' ∧ cap' ≤ 9223372036854775807 ∧ cap' ≤ cur.size ∧ cur.toList.take (cs1.length + cs2.length) = cs1 ++ cs2 ∧ Below w.heap.size w w' := by
  obtain ⟨fi, z, i1, i2, i3, i4, i5⟩ := Go.Tk.elem_info h2 hz
  rw [hc1] at i3 i5
  have hpos : 0 < cs2.length := List.length_pos_iff.2 hne
  have hby : ∀ n, n ≤ 4294967296 → n * fi.bytes ≤ 140737488355328 := fun n h => by
    have : n * fi.bytes ≤ 4294967296 * 16384 := Nat.mul_le_mul h i4
    omega
  have holds : ∀ j u, cs1[j]? = some u → w.cell? ((⟨b, off, none⟩ : Addr).add j) = some u := fun j u h => by rw [addr_add]; exact hx j u h
  have hnews : ∀ j u, cs2[j]? = some u → w.cell? ((⟨b2, off2, none⟩ : Addr).add j) = some u := fun j u h => by rw [addr_add]; exact hy j u h
  have hr := run_append_grow (P := Go.Proofs.Try.prog) w t ty e fi z h1 i1 i2 ⟨b, off, none⟩ cs1.length cs1.length cs1 (by rw [i3, Nat.mul_one]) holds ⟨b2, off2, none⟩ cs2.length cap2 cs2 (by rw [i3, Nat.mul_one]) hnews (by omega) (by omega) (growslice_fits (by omega) (hby _ (by omega)))
  have hge := grownCap_ge w (cs1.length + cs2.length) cs1.length e
  have hgl := grownCap_le_maxLen w (cs1.length + cs2.length) cs1.length e (by unfold maxLen; omega)
  unfold maxLen at hgl
  refine ⟨_, _, _, hr, heap_alloc_new w.drew _, hge, by omega, ?_, ?_, ?_⟩
  · simp only [Array.size_append, List.size_toArray, size_zeroCells, i5]; omega
  · rw [Array.toList_append, Array.toList_append, List.take_left' (by simp)]
  · exact (Below.refl _ w).drew.alloc (Nat.le_refl _) _
theorem app_none {w : World} {t e ty : TypeId} {a : T} (h1 : Go.Proofs.Try.prog.underlying t = some (.slice e)) (h2 : (tys Go.Proofs.Try.prog a).ty e) (hz : a.hasZero = true) {ad ad2 : Addr} {n c2 : Nat} :
    (Builtin.append_ #[t, t] ty #[.slice (some ad) n n, .slice (some ad2) 0 c2]).run Go.Proofs.Try.prog w = .ok (.slice (some ad) n n) w := by
  obtain ⟨fi, z, i1, i2, i3, i4, i5⟩ := Go.Tk.elem_info h2 hz
  have hf : (Builtin.firstCells fi.size 0 (.slice (some ad2) 0 c2)).run Go.Proofs.Try.prog w = .ok #[] w := by
    simp [Builtin.firstCells, loadCells, loadCellsFrom]
  simp [Builtin.append_, run_underlying h1, sizeOf, typeInfo, i1, Builtin.lenOf, hf, storeCells]
/-- A suite whose outer slice is the call's own; the rows are data. -/
structure NestD (lo : Nat) (w : World) (t : Ste) (v : Value) (ob : OB) (vs : List Value) : Prop where
  lenv : vs.length = t.length
  out : repOwn rV 1 w (fun b => lo ≤ b) vs v ob
  row : ∀ j, j < t.length → (reps Go.Proofs.Try.prog tInts).c w (fun b => lo ≤ b ∧ ∀ o, ob ≠ some (b, o)) (t.getD j []) [vs.getD j undef]
theorem rep_rows {R : List Int → List Value → Prop} (h1 : ∀ x cs, R x cs → ∃ u, cs = [u]) : ∀ (t : Ste) (cs : List Value), repL R t cs → cs.length = t.length ∧ repL rV cs cs ∧ ∀ j, j < t.length → R (t.getD j []) [cs.getD j undef]
  | [], cs, h => by
    have : cs = [] := h
    subst this
    exact ⟨rfl, rfl, fun j hj => by simp at hj⟩
  | x :: t, cs, ⟨c1, c2, e, q1, q2⟩ => by
    obtain ⟨u, rfl⟩ := h1 x c1 q1
    obtain ⟨r1, r2, r3⟩ := rep_rows h1 t c2 q2
    subst e
    refine ⟨by simp [r1], ⟨[u], c2, rfl, rfl, r2⟩, fun j hj => ?_⟩
    cases j with
    | zero => exact q1
    | succ j => exact r3 j (by simpa using hj)
theorem copyR_call {w : World} {S : Nat → Prop} {t : Ste} {v : Value} (ht : (reps Go.Proofs.Try.prog tSte).c w S t [v]) (h1 : t.length ≤ 1000) (h2 : ∀ r ∈ t, r.length ≤ 1000) :
    Calls Go.Proofs.Try.prog 40 #[v] w fun e w' => ∃ v ob vs, e = .returned v ∧ NestD w.heap.size w' t v ob vs ∧ Below w.heap.size w w' := by
  refine ((cCopyR8_ok.1 rfl) w S (t, ()) [v] ⟨v, [], [], [], rfl, rfl, ⟨rfl, [v], rfl, ht⟩, rfl, rfl⟩ ⟨show t.length ≤ 1000000 by omega, fun r hr => by have := h2 r hr; omega⟩).mono ?_
  rintro e w' ⟨rs, bs, rfl, ⟨u, us, b1, b2, rfl, rfl, h3, rfl, hb2⟩, _, hbs, hb⟩
  have hb2 : b2 = [] := hb2
  subst hb2
  rw [List.append_nil] at h3 hbs
  obtain ⟨ob, hown, rfl⟩ := h3
  have hown : repOwn ((reps Go.Proofs.Try.prog tInts).c w' fun b => (w.heap.size ≤ b ∨ cCopyR8.al = true ∧ S b) ∧ ¬ b ∈ (ob.map (·.1)).toList) 1 w' (fun _ => True) t u ob := hown
  rcases hown with ⟨rfl, rfl, rfl⟩ | ⟨b, off, cap, cur, et, rfl, rfl, g3, g4, g5, g6, g7, g8⟩
  · exact ⟨_, none, [], rfl, ⟨rfl, .inl ⟨rfl, rfl, rfl⟩, fun j hj => by simp at hj⟩, hb⟩
  · obtain ⟨q1, q2, q3⟩ := rep_rows (fun x cs h => by obtain ⟨u, rfl, _⟩ := h; exact ⟨u, rfl⟩) t _ g8
    refine ⟨_, some (b, off), (cur.toList.drop off).take (t.length * 1), rfl, ⟨q1, .inr ⟨b, off, cap, cur, et, rfl, by rw [q1]; rfl, hbs b (by simp), g4, by rw [q1]; exact g5, by rw [q1]; exact g6, g7, ?_⟩, fun j hj => c_mono tInts (q3 j hj) fun b' _ h => ⟨h.1.resolve_right (fun q => by have := q.1; simp at this), fun o e => h.2 (by rw [show b' = b from (congrArg Prod.fst (Option.some.inj e)).symm]; simp)⟩⟩, hb⟩
    rw [q1]; exact q2
end Go.Tk
/- tinkerref08.Drop, by hand. -/
set_option linter.unusedSimpArgs false
set_option linter.unusedVariables false
set_option linter.unnecessarySimpa false
set_option maxRecDepth 10000
set_option maxHeartbeats 2000000
namespace Go.Tk
open Go Go.RowKit
theorem valR_call {w : World} {S : Nat → Prop} {t : Ste} {v : Value} (ht : (reps Go.Proofs.Try.prog tSte).c w S t [v]) :
    Calls Go.Proofs.Try.prog 36 #[v] w fun e w' => e = .returned (.int .i64 (validT t)) ∧ inI (validT t) ∧ Below w.heap.size w w' := by
  refine ((cVal8r_ok.1 rfl) w S (t, ()) [v] ⟨v, [], [], [], rfl, rfl, ⟨rfl, [v], rfl, ht⟩, rfl, rfl⟩ trivial).mono ?_
  rintro e w' ⟨rs, bs, rfl, ⟨u, us, _, _, rfl, _, ⟨_, cs, rfl, rfl, hi⟩, rfl, _⟩, _, _, hb⟩
  exact ⟨rfl, hi, hb⟩
theorem goalsR_call {w : World} {S : Nat → Prop} {t : Ste} {v : Value} (ht : (reps Go.Proofs.Try.prog tSte).c w S t [v]) :
    Calls Go.Proofs.Try.prog 62 #[v] w fun e w' => e = .returned (.int .i64 (goals8 t : Int)) ∧ inI (goals8 t : Int) ∧ Below w.heap.size w w' := by
  refine ((cGoals8r_ok.1 rfl) w S (t, ()) [v] ⟨v, [], [], [], rfl, rfl, ⟨rfl, [v], rfl, ht⟩, rfl, rfl⟩ trivial).mono ?_
  rintro e w' ⟨rs, bs, rfl, ⟨u, us, _, _, rfl, _, ⟨_, cs, rfl, rfl, hi⟩, rfl, _⟩, _, _, hb⟩
  exact ⟨rfl, hi, hb⟩
theorem step_run {P : Program} {ops : Array Oper} {o : Oper} {a : Act} {K : Act → World → Prop} {Q : Exit → Act → World → Prop} {E : Prop} {w w' : World} (hgd : o.guard = none) (s x : Operand) (tt : Array TypeId)
    (ho : o.op = .call { callee := .builtin .append, args := #[s, x], argTypes := tt }) {v vy v' : Value} (hs : a.eval s = v) (hx : a.eval x = vy)
    (hr : (Builtin.append_ tt o.type #[v, vy]).run P w = .ok v' w') (h : K (a.put o.dst v') w') :
    if Region.wanted o (yielded ops a.tmps) = true then Oper.wp P o a w K Q else E := by
  have hw : Region.wanted o (yielded ops a.tmps) = true := by simp [Region.wanted, hgd]
  rw [if_pos hw]
  unfold Oper.wp execOp
  simp only [ho, resolve, invoke, builtin, Sem.run_bind, Sem.run_pure, Result.andThen_ok, List.map_toArray, List.map_cons, List.map_nil, hs, hx, hr]
  exact h
/-- A row without one of its numbers. -/
theorem cut_run {w : World} {lo : Nat} {ob : OB} {xs : List Int} {v : Value} {g : Nat} (h : (reps Go.Proofs.Try.prog tInts).c w (fun b => lo ≤ b ∧ ∀ o, ob ≠ some (b, o)) xs [v]) (hg : g < xs.length) (hl : xs.length ≤ 1000) (hlo : lo ≤ w.heap.size) (hob : ∀ b o, ob = some (b, o) → b < w.heap.size) :
    ∃ b off cap, v = .slice (some ⟨b, off, none⟩) xs.length cap ∧ xs.length ≤ cap ∧ ∀ (ty : TypeId) W, W.heap = w.heap → ∃ w' nv, (∀ A2, A2 = (if cap = g + 1 then (⟨b, off, none⟩ : Addr) else ⟨b, off + (g + 1), none⟩) → (Builtin.append_ #[25, 25] ty #[.slice (some ⟨b, off, none⟩) g g, .slice (some A2) (xs.length - (g + 1)) (cap - (g + 1))]).run Go.Proofs.Try.prog W = .ok nv w') ∧
      (∃ na nl nc, nv = .slice na nl nc) ∧ (reps Go.Proofs.Try.prog tInts).c w' (fun b => lo ≤ b ∧ ∀ o, ob ≠ some (b, o)) (cutG g xs) [nv] ∧ Below W.heap.size W w' := by
  obtain ⟨u, eu, ao, cap, ev, h1, h2, h3⟩ := h
  cases eu
  have ev : v = .slice ao xs.length cap := ev
  subst ev
  rcases h3 with e | ⟨b, off, cs, rfl, hS, hb, hc, h4⟩
  · have e : xs = [] := e
    rw [e] at hg; simp at hg
  refine ⟨b, off, cap, rfl, h1, fun ty W hW => ?_⟩
  have hcs : cs = xs.map (Value.int .i64) := repL_map (f := Value.int .i64) (fun x cs h => h.1) xs cs h4
  have hin : ∀ x ∈ xs, inI x := fun x hx => repL_all (p := inI) (fun x cs h => h.2) xs cs h4 x hx
  have hcW : cellsAt W b off cs := hc.keep fun _ => by rw [hW]
  have hl0 : cs.length = xs.length := by rw [hcs, List.length_map]
  have c1 : cellsAt W b off (cs.take g) := fun j u hu => by
    rw [List.getElem?_take] at hu
    split at hu
    · exact hcW j u hu
    · cases hu
  have c2 : cellsAt W b (off + (g + 1)) (cs.drop (g + 1)) := fun j u hu => by
    rw [List.getElem?_drop] at hu
    rw [Nat.add_assoc]
    exact hcW _ u hu
  obtain ⟨e3, t1, t2⟩ := ty_sl ((tyB_ok Go.Proofs.Try.prog tInts).1 25 (by kernel_rfl))
  have hints : ∀ l : List Int, (∀ x ∈ l, x ∈ xs) → ∀ (W : World) (S : Nat → Prop), repL ((reps Go.Proofs.Try.prog .int).c W S) l (l.map (Value.int .i64)) := fun l hl W S => repL_of_map (R := (reps Go.Proofs.Try.prog .int).c W S) (f := Value.int .i64) l fun x hx => ⟨rfl, hin x (hl x hx)⟩
  have l1 : (cs.take g).length = g := by rw [List.length_take]; omega
  have l2 : (cs.drop (g + 1)).length = xs.length - (g + 1) := by rw [List.length_drop]; omega
  by_cases he : g + 1 = xs.length
  · refine ⟨W, .slice (some ⟨b, off, none⟩) g g, fun A2 hA2 => ?_, ⟨_, _, _, rfl⟩, ⟨_, rfl, some ⟨b, off, none⟩, g, ?_, ?_, ?_, ?_⟩, Below.refl _ _⟩
    · rw [show xs.length - (g + 1) = 0 by omega]
      exact app_none t1 t2 rfl
    · show _ = Value.slice _ (cutG g xs).length g
      rw [cutG_len hg, show xs.length - 1 = g by omega]
    · show (cutG g xs).length ≤ g
      rw [cutG_len hg]; omega
    · show (cutG g xs).length ≤ _
      rw [cutG_len hg]; omega
    · refine .inr ⟨b, off, cs.take g, rfl, hS, by rw [hW]; exact hb, c1, ?_⟩
      have e1 : cutG g xs = xs.take g := by unfold cutG; rw [List.drop_eq_nil_of_le (by omega), List.append_nil]
      have e2 : cs.take g = (xs.take g).map (Value.int .i64) := by rw [hcs, List.map_take]
      show repL _ (cutG g xs) _
      rw [e1, e2]
      exact hints _ (fun x hx => List.mem_of_mem_take hx) _ _
  · have hne : cs.drop (g + 1) ≠ [] := fun e => by rw [e] at l2; simp at l2; omega
    obtain ⟨w', cap', cur, hr, q1, q2, q3, q4, q5, q6⟩ := app_lim (ty := ty) (w := W) (cap2 := cap - (g + 1)) t1 t2 rfl rfl c1 c2 hne (by omega) (by omega) (by omega)
    rw [l1, l2] at q2 q5
    have e1 : cutG g xs = xs.take g ++ xs.drop (g + 1) := rfl
    have e2 : cs.take g ++ cs.drop (g + 1) = (cutG g xs).map (Value.int .i64) := by rw [hcs, e1, List.map_append, List.map_take, List.map_drop]
    have hcl := cutG_len hg
    have hlt : W.heap.size < w'.heap.size := (Array.getElem?_eq_some_iff.1 q1).1
    refine ⟨w', .slice (some ⟨W.heap.size, 0, none⟩) (g + (xs.length - (g + 1))) cap', fun A2 hA2 => ?_, ⟨_, _, _, rfl⟩, ⟨_, rfl, some ⟨W.heap.size, 0, none⟩, cap', ?_, ?_, ?_, ?_⟩, q6⟩
    · rw [if_neg (by omega)] at hA2
      subst hA2
      rw [l1, l2] at hr
      exact hr
    · show _ = Value.slice _ (cutG g xs).length cap'
      rw [hcl, show g + (xs.length - (g + 1)) = xs.length - 1 by omega]
    · show (cutG g xs).length ≤ cap'
      omega
    · show (cutG g xs).length ≤ _
      omega
    · refine .inr ⟨W.heap.size, 0, cur.toList.take (g + (xs.length - (g + 1))), rfl, ⟨by rw [hW]; exact hlo, fun o e => by have := hob _ _ e; rw [hW] at this; omega⟩, hlt, fun j u hu => ?_, ?_⟩
      · rw [List.getElem?_take] at hu
        split at hu
        · rw [Nat.zero_add, row_cell q1, ← Array.getElem?_toList]; exact hu
        · cases hu
      · show repL _ (cutG g xs) _
        rw [q5, e2]
        exact hints _ (fun x hx => by
          rw [e1] at hx
          rcases List.mem_append.1 hx with hx | hx
          · exact List.mem_of_mem_take hx
          · exact List.mem_of_mem_drop hx) _ _
end Go.Tk
/- tinkerref08.Drop, by hand: the walk. -/
set_option linter.unusedSimpArgs false
set_option linter.unusedVariables false
set_option linter.unnecessarySimpa false
set_option maxRecDepth 10000
set_option maxHeartbeats 2000000
namespace Go.Tk
open Go Go.RowKit
theorem NestD.data {lo : Nat} {w : World} {t : Ste} {v : Value} {ob : OB} {vs : List Value} (h : NestD lo w t v ob vs) : (reps Go.Proofs.Try.prog tSte).c w (fun b => lo ≤ b) t [v] := by
  have lv := h.lenv
  refine ⟨v, rfl, ?_⟩
  rcases h.out with ⟨rfl, rfl, _⟩ | ⟨b, off, cap, cur, e, g1, rfl, g3, g4, g5, g6, g7, g8⟩
  · have : t = [] := List.length_eq_zero_iff.1 (by rw [← lv]; rfl)
    subst this
    exact ⟨none, 0, rfl, Nat.le_refl _, by simp, .inl rfl⟩
  · have hc := repL_map (f := fun v => v) (fun x cs h => h) vs _ g8
    rw [List.map_id', Nat.mul_one] at hc
    refine ⟨_, cap, by rw [lv], by rw [← lv]; exact g5, by rw [← lv]; exact g6.1, ?_⟩
    by_cases h0 : t = []
    · exact .inl h0
    · refine .inr ⟨b, off, vs, rfl, g3, (Array.getElem?_eq_some_iff.1 g4).1, fun j u hu => ?_, ?_⟩
      · have hj : j < vs.length := (List.getElem?_eq_some_iff.1 hu).1
        have h1 := congrArg (fun l => l[j]?) hc
        simp only [List.getElem?_take, List.getElem?_drop] at h1
        rw [if_pos hj, hu] at h1
        rw [row_cell g4, ← Array.getElem?_toList]; exact h1
      · refine repL_one t vs vs (by
          have := repL_of_map (R := rV) (f := fun v => v) vs fun x _ => rfl
          rwa [List.map_id'] at this) lv fun n x u hx hu => ?_
        have hn : n < t.length := (List.getElem?_eq_some_iff.1 hx).1
        have := h.row n hn
        rw [List.getD_eq_getElem?_getD, List.getD_eq_getElem?_getD, hx, hu] at this
        exact c_mono tInts this fun _ _ h => h.1
theorem NestD.mono_lo {lo lo' : Nat} {w : World} {t : Ste} {v : Value} {ob : OB} {vs : List Value} (h : NestD lo w t v ob vs) (hl : lo' ≤ lo) : NestD lo' w t v ob vs :=
  ⟨h.lenv, own_S h.out fun b o e => Nat.le_trans hl (own_lt (e ▸ h.out)).2, fun j hj => c_mono tInts (h.row j hj) fun b _ h => ⟨Nat.le_trans hl h.1, h.2⟩⟩
theorem NestD.set {lo : Nat} {w w1 w' : World} {t : Ste} {v nv : Value} {bo off : Nat} {cur : Array Value} {vs : List Value} {xs : List Int} {j : Nat} (h : NestD lo w t v (some (bo, off)) vs) (hj : j < t.length) (hb : Below w.heap.size w w1) (hw' : w' = w1.setRow bo cur)
    (ho : repOwn rV 1 w' (fun b => lo ≤ b) (vs.set j nv) v (some (bo, off))) (hr : (reps Go.Proofs.Try.prog tInts).c w1 (fun b => lo ≤ b ∧ ∀ o, (some (bo, off) : OB) ≠ some (b, o)) xs [nv]) : NestD lo w' (t.set j xs) v (some (bo, off)) (vs.set j nv) := by
  have lv := h.lenv
  have hk : Keep (fun b => lo ≤ b ∧ ∀ o, (some (bo, off) : OB) ≠ some (b, o)) w1 w' := by
    subst hw'
    exact ⟨by rw [setRow_size]; exact Nat.le_refl _, fun b _ hs => setRow_other _ _ _ _ fun e => hs.2 off (by rw [e])⟩
  refine ⟨by simp [lv], ho, fun k hk' => ?_⟩
  rw [List.length_set] at hk'
  rw [getD_set _ _ _ _ _ hj, getD_set _ _ _ _ _ (by omega)]
  by_cases g : k = j
  · rw [if_pos g, if_pos g]
    exact c_keep tInts hr hk fun _ _ h => h
  · rw [if_neg g, if_neg g]
    exact c_keep tInts (c_keep tInts (h.row k hk') ⟨hb.size, fun b hb' _ => hb.block b hb'.lt⟩ fun _ _ h => h) hk fun _ _ h => h
theorem dropR_call {w : World} {S : Nat → Prop} {t : Ste} {goal : Int} {tv : Value} (ht : (reps Go.Proofs.Try.prog tSte).c w S t [tv]) (hg : inI goal) :
    Calls Go.Proofs.Try.prog 38 #[tv, .int .i64 goal] w (dropPost w t goal) := by
  have ht0 := ht
  obtain ⟨tv', etv, ao, cap, e2, h1, h2, h3⟩ := ht
  cases etv
  have e2 : tv = .slice ao t.length cap := e2
  subst e2
  have keepT : ∀ {W : World}, Below w.heap.size w W → (reps Go.Proofs.Try.prog tSte).c W S t [.slice ao t.length cap] := fun hb => c_keep tSte ht0 ⟨hb.size, fun b hb' _ => hb.block b hb'.lt⟩ fun _ _ h => h
  go_enter Go.Proofs.Try.func38, Go.Proofs.Try.ntmps38
  refine (wpIn_wide (n := 0)).1 ?_
  show Code.wpIn (Fw none) 0 _ _ _ _ _
  refine wpIn_seq (ql_region rfl ?_)
  simp [ql, go_sem, Exit.then]
  refine wpIn_seq (ql_region rfl ?_)
  simp [ql, go_sem, Exit.then]
  refine (valR_call ht0).mono ?_
  rintro e W1 ⟨rfl, hi1, hb1⟩
  have hres : ∀ (tm : Array Value) (W : World), (results Go.Proofs.Try.f38 tm).run Go.Proofs.Try.prog W = .ok (.tuple #[tm.getD 4 undef, tm.getD 5 undef]) W := fun tm W => by simp [results, Go.Proofs.Try.results38, go_sem]
  by_cases c1 : validT t = 0
  case neg =>
    have hE : dropE t goal = validT t := by unfold dropE; rw [if_neg c1]
    simp [ql, go_sem, Exit.then, c1]
    refine wpIn_seq (wpIn_seq (ql_region rfl ?_))
    simp [ql, go_sem, Exit.then, c1]
    refine wpIn_cond_true (by simp [Act.eval, c1]) (wpIn_seq (ql_region rfl ?_))
    simp [ql, go_sem, Exit.then]
    refine wpIn_ret ?_
    refine ⟨rfl, _, hres _ _, .slice none 0 0, by rw [hE]; rfl, ?_, by rw [hE]; exact hi1, hb1⟩
    rw [if_neg (by rw [hE]; exact c1)]
    exact nil_ste
  have hok := validT_ok.1 c1
  simp [ql, go_sem, Exit.then, c1]
  refine wpIn_seq (wpIn_seq (ql_region rfl ?_))
  simp [ql, go_sem, Exit.then, c1]
  refine wpIn_cond_false (by simp [Act.eval]) (wpIn_skip ?_)
  simp only [Exit.then]
  have h10 := hok.2.1
  have hbad : ∀ (tm : Array Value) (W : World), ¬ (0 ≤ goal ∧ goal < (goals8 t : Int)) → Below w.heap.size w W → tm.getD 4 undef = .slice none 0 0 → tm.getD 5 undef = .int .i64 4 → ∃ v, (results Go.Proofs.Try.f38 tm).run Go.Proofs.Try.prog W = .ok v W ∧ dropPost w t goal (.returned v) W := by
    intro tm W hn hb q4 q5
    have hE : dropE t goal = 4 := by unfold dropE; rw [if_pos c1, if_neg hn]
    refine ⟨_, hres _ _, .slice none 0 0, by rw [hE, q4, q5], ?_, by rw [hE]; unfold inI; omega, hb⟩
    rw [if_neg (by rw [hE]; omega)]
    exact nil_ste
  refine wpIn_seq (wpIn_seq (qlg_region ?_))
  by_cases n1 : goal < 0
  · simp [qlg, Region.wanted, yielded, go_sem, Exit.then, n1]
    refine wpIn_cond_true (by simp [Act.eval]) (wpIn_seq (ql_region rfl ?_))
    simp [ql, go_sem, Exit.then]
    refine wpIn_ret ?_
    exact ⟨rfl, hbad _ W1 (by omega) hb1 rfl rfl⟩
  simp [qlg, Region.wanted, yielded, go_sem, Exit.then, n1]
  refine (goalsR_call (keepT hb1)).mono ?_
  rintro e W2 ⟨rfl, hi2, hb2⟩
  have hb02 := hb1.trans (hb2.mono hb1.size)
  by_cases n2 : (goals8 t : Int) ≤ goal
  · simp [qlg, Region.wanted, yielded, go_sem, Exit.then, n1, n2]
    refine wpIn_cond_true (by simp [Act.eval]) (wpIn_seq (ql_region rfl ?_))
    simp [ql, go_sem, Exit.then]
    refine wpIn_ret ?_
    exact ⟨rfl, hbad _ W2 (by omega) hb02 rfl rfl⟩
  simp [qlg, Region.wanted, yielded, go_sem, Exit.then, n1, n2]
  have hE : dropE t goal = 0 := by
    unfold dropE
    rw [if_pos c1, if_pos ⟨by omega, by omega⟩]
  obtain ⟨g, rfl⟩ : ∃ g : Nat, goal = g := ⟨goal.toNat, by omega⟩
  have hrl : ∀ r ∈ t, r.length = goals8 t := fun r hr => (hok.2.2 r hr).1
  have h8 := hok.1
  refine wpIn_cond_false (by simp [Act.eval]) (wpIn_skip ?_)
  simp only [Exit.then]
  refine wpIn_seq (ql_region rfl ?_)
  simp [ql, go_sem, Exit.then]
  refine (copyR_call (keepT hb02) (by omega) (fun r hr => by rw [hrl r hr]; omega)).mono ?_
  rintro e W4 ⟨v, ob, vs, rfl, hN, hb4⟩
  have hs2 := hb02.size
  have hb04 := hb02.trans (hb4.mono hs2)
  have hN : NestD w.heap.size W4 t v ob vs := hN.mono_lo hs2
  obtain ⟨va, vc, hv⟩ : ∃ va vc, v = .slice va t.length vc := by
    rcases hN.out with ⟨h, h', _⟩ | ⟨b, off, cap, cur, e, _, h, _⟩
    · have : t.length = 0 := by rw [← hN.lenv, h']; rfl
      exact ⟨none, 0, by rw [h, this]⟩
    · exact ⟨_, _, by rw [h, hN.lenv]⟩
  subst hv
  simp [ql, go_sem, Exit.then]
  refine wpIn_seq (wpIn_seq (ql_region rfl ?_))
  simp [ql, go_sem, Exit.then]
  refine wpIn_block (wp_loopAt ?_)
  obtain ⟨A, hA⟩ : ∃ A : Nat → Act → World → Prop, A = fun m a W => ∃ x2 x3 x4 x5 x6 x9 x10 x11 x12 x13 x14 x15 x16 x17 x18 x19 x20 x21 x22 x23 x24 x25 x26 x27 x28 x29 x30 x31 x32 x33 x34 x35 x36 x37 x38 x39 x40 x41 x42 x43 x44 x45 x46 x47 x48 : Value, a = ⟨#[.slice ao t.length cap, .int .i64 (g : Int), x2, x3, x4, x5, x6, .slice va t.length vc, .int .i64 m, x9, x10, x11, x12, x13, x14, x15, x16, x17, x18, x19, x20, x21, x22, x23, x24, x25, x26, x27, x28, x29, x30, x31, x32, x33, x34, x35, x36, x37, x38, x39, x40, x41, x42, x43, x44, x45, x46, x47, x48], []⟩ ∧ ∃ vs, NestD w.heap.size W ((t.take m).map (cutG g) ++ t.drop m) (.slice va t.length vc) ob vs ∧ Below w.heap.size w W := ⟨_, rfl⟩
  refine loop_upX (n := t.length) A ?_ ?_ 0 (by omega) _ _ (by rw [hA]; exact ⟨_, _, _, _, _, _, _, _, _, _, _, _, _, _, _, _, _, _, _, _, _, _, _, _, _, _, _, _, _, _, _, _, _, _, _, _, _, _, _, _, _, _, _, _, _, rfl, vs, by simpa using hN, hb04⟩)
  · intro a W hh
    rw [hA] at hh
    obtain ⟨x2, x3, x4, x5, x6, x9, x10, x11, x12, x13, x14, x15, x16, x17, x18, x19, x20, x21, x22, x23, x24, x25, x26, x27, x28, x29, x30, x31, x32, x33, x34, x35, x36, x37, x38, x39, x40, x41, x42, x43, x44, x45, x46, x47, x48, rfl, vs, hN, hb⟩ := hh
    refine wpIn_seq (wpIn_seq (ql_region rfl ?_))
    simp [ql, go_sem, Exit.then]
    refine wpIn_cond_false (by simp [Act.eval]) (wpIn_exit ?_)
    simp only [Exit.then, Exit.inBlock, if_true]
    refine wpIn_seq (ql_region rfl ?_)
    simp [ql, go_sem, Exit.then]
    refine wpIn_ret ?_
    refine ⟨rfl, _, hres _ _, _, by rw [hE]; rfl, ?_, by rw [hE]; unfold inI; omega, hb⟩
    rw [if_pos hE, Int.toNat_natCast]
    rw [List.take_length, List.drop_length, List.append_nil] at hN
    exact hN.data
  · intro m a W hm hh
    rw [hA] at hh
    obtain ⟨x2, x3, x4, x5, x6, x9, x10, x11, x12, x13, x14, x15, x16, x17, x18, x19, x20, x21, x22, x23, x24, x25, x26, x27, x28, x29, x30, x31, x32, x33, x34, x35, x36, x37, x38, x39, x40, x41, x42, x43, x44, x45, x46, x47, x48, rfl, vs, hN, hb⟩ := hh
    have hlt : ((t.take m).map (cutG g) ++ t.drop m).length = t.length := by simp; omega
    have hvl : vs.length = t.length := by rw [hN.lenv, hlt]
    refine wpIn_seq (wpIn_seq (ql_region rfl ?_))
    simp [ql, go_sem, Exit.then]
    refine wpIn_cond_true (by simp [Act.eval]; omega) (wpIn_skip ?_)
    simp only [Exit.then]
    obtain ⟨bo, off, cap', cur, et, rfl, hva, k1, k2, k3, k4⟩ := own_out hN.out (j := m) (by omega)
    rw [hvl] at hva
    cases hva
    obtain ⟨e25, t1, t2⟩ := ty_sl ((tyB_ok Go.Proofs.Try.prog tSte).1 22 (by kernel_rfl))
    have hix := fun W : World => run_index_sl (w := W) t1 t2 (b := bo) (off := off) (len := t.length) (cap := vc) (n := (m : Int)) (by omega) (by omega)
    rw [Int.toNat_natCast, show T.csize tInts = 1 from rfl, Nat.mul_one] at hix
    have hc : W.cell? ⟨bo, off + m, none⟩ = some (vs.getD m undef) := by rw [row_cell k1]; exact k3
    have hget : ((t.take m).map (cutG g) ++ t.drop m).getD m [] = t.getD m [] := by
      rw [List.getD_eq_getElem?_getD, List.getElem?_append_right (by simp; omega), List.getElem?_drop, List.getD_eq_getElem?_getD]
      congr 2
      simp; omega
    have hrow := hN.row m (by omega)
    rw [hget] at hrow
    have hml := hrl _ (mem_getD (d := []) hm)
    have hs := hb.size
    have hbo := own_lt hN.out
    obtain ⟨b3, off3, cap3, hv3, hcap3, hcut⟩ := cut_run hrow (g := g) (by omega) (by omega) hs (fun b o e => by cases e; exact hbo.1)
    rw [hv3] at hc
    obtain ⟨W5, nv, hrun, ⟨na, nl, nc, rfl⟩, hnew, hb5⟩ := hcut 25 W.drew rfl
    have hbo5 : W5.heap[bo]? = some (.cells cur et (0, 0)) := (hb5.block bo hbo.1).trans k1
    have cc : W5.cell? ⟨bo, off + m, none⟩ = some (.slice (some ⟨b3, off3, none⟩) (List.getD t m []).length cap3) := by rw [row_cell hbo5, k3, hv3]
    have cf : W5.frozen? ⟨bo, off + m, none⟩ = false := row_warm hbo5
    have hw1 : IntKind.i64.wrap ((g : Int) + 1) = (g : Int) + 1 := wrap_in (by unfold inI; omega)
    have hg0 : g ≤ cap3 := by omega
    have hg1 : g + 1 ≤ (List.getD t m []).length := by omega
    have hg2 : (List.getD t m []).length ≤ cap3 := hcap3
    have hfin : Pre (∀ nv W6, W6 = W5.setRow bo (cur.setIfInBounds (off + m) nv) → nv = .slice na nl nc → ∀ x2 x3 x4 x5 x6 x9 x10 x11 x12 x13 x14 x15 x16 x17 x18 x19 x20 x21 x22 x23 x24 x25 x26 x27 x28 x29 x30 x31 x32 x33 x34 x35 x36 x37 x38 x39 x40 x41 x42 x43 x44 x45 x46 x47 x48 : Value, A (m + 1) ⟨#[.slice ao t.length cap, .int .i64 (g : Int), x2, x3, x4, x5, x6, .slice (some ⟨bo, off, none⟩) t.length vc, .int .i64 ((m + 1 : Nat) : Int), x9, x10, x11, x12, x13, x14, x15, x16, x17, x18, x19, x20, x21, x22, x23, x24, x25, x26, x27, x28, x29, x30, x31, x32, x33, x34, x35, x36, x37, x38, x39, x40, x41, x42, x43, x44, x45, x46, x47, x48], []⟩ W6) := ⟨fun nv W6 e6 en x2 x3 x4 x5 x6 x9 x10 x11 x12 x13 x14 x15 x16 x17 x18 x19 x20 x21 x22 x23 x24 x25 x26 x27 x28 x29 x30 x31 x32 x33 x34 x35 x36 x37 x38 x39 x40 x41 x42 x43 x44 x45 x46 x47 x48 => by
      subst e6
      subst en
      rw [hA]
      have hrow6 := setRow_heap W5 bo _ (cur.setIfInBounds (off + m) (.slice na nl nc)) _ _ hbo5
      have hb5' : Below W.heap.size W W5 := (Below.refl _ W).drew.trans hb5
      have hN6 := hN.set (w1 := W5) (j := m) (by omega) hb5' rfl (k4 _ _ hrow6) hnew
      rw [map_part t (cutG g) hm] at hN6
      refine ⟨x2, x3, x4, x5, x6, x9, x10, x11, x12, x13, x14, x15, x16, x17, x18, x19, x20, x21, x22, x23, x24, x25, x26, x27, x28, x29, x30, x31, x32, x33, x34, x35, x36, x37, x38, x39, x40, x41, x42, x43, x44, x45, x46, x47, x48, rfl, _, hN6, ?_⟩
      have hs5 := hb5'.size
      refine ⟨hb5'.os.trans hb.os, hb5'.tape.trans hb.tape, hb5'.output.trans hb.output, by rw [setRow_size]; omega, fun i hi => ?_⟩
      rw [setRow_other _ _ _ _ (by have := hbo.2; omega), hb5'.block i (by omega)]
      exact hb.block i hi⟩
    obtain ⟨L, hL⟩ : ∃ L, L = (List.getD t m []).length := ⟨_, rfl⟩
    rw [← hL] at hc hrun cc hg1 hg2
    have hm0 : m < t.length := hm
    have hz1 : (0 : Int) ≤ (g : Int) + 1 := by omega
    have hz2 : (g : Int) + 1 ≤ (L : Int) := by omega
    have hz3 : ((g : Int) + 1).toNat = g + 1 := by omega
    have hz4 : (L : Int) ≤ (cap3 : Int) := by omega
    have hwm : IntKind.i64.wrap ((m : Int) + 1) = ((m + 1 : Nat) : Int) := wrap_in (by unfold inI; omega)
    obtain ⟨A2, hA2, hA2'⟩ : ∃ A2 : Addr, (if cap3 = g + 1 then some (⟨b3, off3, none⟩ : Addr) else some ⟨b3, off3 + (g + 1), none⟩) = some A2 ∧ A2 = (if cap3 = g + 1 then (⟨b3, off3, none⟩ : Addr) else ⟨b3, off3 + (g + 1), none⟩) := ⟨_, by split <;> rfl, rfl⟩
    have hrun' := hrun A2 hA2'
    have mixed := mix_ok
    clear hA2' hrun
    clear hcut hrow hget hnew hN hml hL hA k3 hcap3 hv3
    refine wpIn_seq (wpIn_block ((wpIn_wide (n := 0)).2 ?_))
    go_region_law_o (refine step_run rfl (.tmp 38) (.tmp 45) #[25, 25] rfl (by simp [Act.eval, Act.put]) (by simp [Act.eval, Act.put]) hrun' ?_)
    all_goals (
      simp only [Exit.then, Exit.inBlock]
      rw [setCell_eq_setRow W5 bo (off + m) cur et (0, 0) _ hbo5]
      refine ql_region rfl ?_
      simp [ql, go_sem, Exit.then, hwm]
      exact hfin.h _ _ rfl rfl _ _ _ _ _ _ _ _ _ _ _ _ _ _ _ _ _ _ _ _ _ _ _ _ _ _ _ _ _ _ _ _ _ _ _ _ _ _ _ _ _ _ _ _ _)
end Go.Tk
/- Plain facts of layer 8: a suite without a row. No program in sight. -/
set_option linter.unusedSimpArgs false
set_option linter.unusedVariables false
set_option linter.unnecessarySimpa false
namespace Go.Tk
open Go Go.RowKit
def cutA {α : Type} (g : Nat) (l : List α) : List α := l.take g ++ l.drop (g + 1)
theorem cutA_len {α : Type} {g : Nat} {l : List α} (h : g < l.length) : (cutA g l).length = l.length - 1 := by
  unfold cutA
  rw [List.length_append, List.length_take, List.length_drop]; omega
theorem cutA_get {α : Type} {g : Nat} {l : List α} (d : α) (h : g < l.length) (k : Nat) : (cutA g l).getD k d = l.getD (backG g k) d := by
  unfold cutA backG
  have hl : (l.take g).length = g := by rw [List.length_take]; omega
  rw [List.getD_eq_getElem?_getD, List.getD_eq_getElem?_getD]
  split
  · rename_i hk
    rw [List.getElem?_append_left (by omega), List.getElem?_take, if_pos hk]
  · rename_i hk
    rw [List.getElem?_append_right (by omega), hl, List.getElem?_drop]
    congr 2; omega
theorem backG_lt {g k n : Nat} (hg : g < n) (hk : k < n - 1) : backG g k < n := by unfold backG; split <;> omega
theorem backG_inj {g j k : Nat} (h : backG g j = backG g k) : j = k := by unfold backG at h; split at h <;> split at h <;> omega
def withE (t : Ste) (r : Int) : Int := if validT t = 0 then (if 0 ≤ r ∧ r < (t.length : Int) then 0 else 4) else validT t
theorem cutA_mem {α : Type} {g : Nat} {l : List α} {x : α} (h : x ∈ cutA g l) : x ∈ l := by
  unfold cutA at h
  rcases List.mem_append.1 h with h | h
  · exact List.mem_of_mem_take h
  · exact List.mem_of_mem_drop h
theorem with_goals {t : Ste} (h : okT t) {g : Nat} (hg : g < t.length) (hn : 1 < t.length) : goals8 (cutA g t) = goals8 t := by
  have hm : (cutA g t).getD 0 [] ∈ cutA g t := mem_getD (by rw [cutA_len hg]; omega)
  exact (h.2.2 _ (cutA_mem hm)).1
theorem with_ok {t : Ste} (h : okT t) {g : Nat} (hg : g < t.length) : okT (cutA g t) := by
  have hl := cutA_len hg
  have h8 := h.1
  by_cases hn : 1 < t.length
  · refine ⟨by omega, by rw [with_goals h hg hn]; exact h.2.1, fun r hr => ?_⟩
    rw [with_goals h hg hn]
    exact h.2.2 r (cutA_mem hr)
  · have : cutA g t = [] := List.length_eq_zero_iff.1 (by omega)
    rw [this]
    exact ⟨by simp, by simp [goals8], fun r hr => by simp at hr⟩
theorem with_open {t : Ste} (h : okT t) {g : Nat} (hg : g < t.length) : (openL (cutA g t)).length ≤ (openL t).length := by
  have hl := cutA_len hg
  by_cases hn : 1 < t.length
  · unfold openL metL
    rw [List.length_map, List.length_map, with_goals h hg hn, ← List.countP_eq_length_filter, ← List.countP_eq_length_filter]
    refine List.countP_mono_left fun x _ hx => ?_
    obtain ⟨r, hr, e⟩ := List.any_eq_true.1 hx
    have hr := nums_mem.1 hr
    refine List.any_eq_true.2 ⟨(backG g r.toNat : Nat), nums_mem.2 ⟨by omega, ?_⟩, ?_⟩
    · have := backG_lt hg (k := r.toNat) (by omega)
      omega
    · unfold hits at e ⊢
      rw [cutA_get [] hg] at e
      rw [Int.toNat_natCast]; exact e
  · have : cutA g t = [] := List.length_eq_zero_iff.1 (by omega)
    rw [this]
    have : openL [] = [] := rfl
    rw [this]; simp
end Go.Tk
/- suite.Without, by hand: the rows lie in memory of their own. -/
set_option linter.unusedSimpArgs false
set_option linter.unusedVariables false
set_option linter.unnecessarySimpa false
set_option maxRecDepth 10000
set_option maxHeartbeats 1000000
namespace Go.Proofs
open Go.RowKit Go.Sort Go.Shelf
shelf_lay_g SlLaysE.n45 Slgn 45 at Try 87 as Try.deleteS
end Go.Proofs
namespace Go.Tk
open Go Go.RowKit
theorem putRow_heapA {α : Type} [Inhabited α] (enc : α → Value) {w : World} {n b off : Nat} {xs ys : List α} {cur : Array Value} {e : TypeId} (h : w.heap[b]? = some (.cells cur e (0, 0))) (hl : ys.length = xs.length) (hx : (cur.toList.drop off).take (xs.length * 1) = xs.map enc) :
    ∃ cur' : Array Value, (Sort.putRow enc (Sort.ahead w n) b off ys.toArray).heap[b]? = some (.cells cur' e (0, 0)) ∧ cur'.size = cur.size ∧ (cur'.toList.drop off).take (ys.length * 1) = ys.map enc := by
  refine ⟨Sort.putCells enc off ys.toArray cur, ?_, by simp [Sort.putCells], ?_⟩
  · unfold Sort.putRow Sort.mapBlock
    have hb : (Sort.ahead w n).heap[b]? = some (.cells cur e (0, 0)) := h
    rw [Array.getElem?_modify, if_pos rfl, hb]
    rfl
  · have hlen : off + xs.length ≤ cur.size ∨ xs = [] := by
      cases xs with
      | nil => exact .inr rfl
      | cons x xs =>
        left
        have := congrArg List.length hx
        simp only [List.length_take, List.length_drop, List.length_map, Array.length_toList, List.length_cons] at this ⊢
        omega
    apply List.ext_getElem?
    intro i
    rw [List.getElem?_take, List.getElem?_map]
    by_cases hi : i < ys.length
    · rw [if_pos (by omega), List.getElem?_drop, Array.getElem?_toList]
      have hsz : off + i < cur.size := by
        rcases hlen with hlen | rfl
        · omega
        · rw [List.length_nil] at hl; omega
      unfold Sort.putCells
      rw [Array.getElem?_mapIdx, Array.getElem?_eq_getElem hsz]
      simp [hi]
    · rw [if_neg (by omega), List.getElem?_eq_none (by omega)]
      rfl
theorem sl_zero (w : World) : (zeroValue 25).run Go.Proofs.Try.prog w = .ok (.slice none 0 0) w := by kernel_rfl
theorem sl_info : ∃ i0, Go.Proofs.Try.prog.info? 25 = some i0 ∧ i0.size = 1 := by
  obtain ⟨fi, i1, i2, _⟩ := tys_info ((tyB_ok Go.Proofs.Try.prog tInts).1 25 (by kernel_rfl))
  exact ⟨fi, i1, i2⟩
abbrev Sl3 := Option Addr × Nat × Nat
def enc3 (x : Sl3) : Value := .slice x.1 x.2.1 x.2.2
theorem as_enc : ∀ vs : List Value, (∀ v ∈ vs, ∃ a l c, v = .slice a l c) → ∃ xs : List Sl3, vs = xs.map enc3
  | [], _ => ⟨[], rfl⟩
  | v :: vs, h => by
    obtain ⟨a, l, c, rfl⟩ := h v (by simp)
    obtain ⟨xs, rfl⟩ := as_enc vs fun v hv => h v (by simp [hv])
    exact ⟨(a, l, c) :: xs, rfl⟩
theorem cutA_map {α β : Type} (f : α → β) (g : Nat) (l : List α) : cutA g (l.map f) = (cutA g l).map f := by
  unfold cutA; rw [List.map_append, List.map_take, List.map_drop]
theorem delS_call {w : World} {S : Nat → Prop} {vs : List Value} {v : Value} {b off : Nat} {r : Nat} (h : repOwn rV 1 w S vs v (some (b, off))) (hs : ∀ v ∈ vs, ∃ a l c, v = .slice a l c) (hr : r < vs.length) (hl : vs.length ≤ 1000) :
    Calls Go.Proofs.Try.prog 87 #[v, .int .i64 (r : Int), .int .i64 ((r : Int) + 1)] w fun e w' => ∃ nv, e = .returned nv ∧ (∃ c, nv = .slice (some ⟨b, off, none⟩) (vs.length - 1) c) ∧ repOwn rV 1 w' S (cutA r vs) nv (some (b, off)) ∧ OwnBut w w' (some (b, off)) := by
  obtain ⟨xs, rfl⟩ := as_enc vs hs
  rw [List.length_map] at hr hl
  rcases h with ⟨_, _, e⟩ | ⟨b', off', cap, cur, e, g1, rfl, g3, g4, g5, g6, g7, g8⟩
  · cases e
  · cases g1
    rw [List.length_map] at g5 g6 g8
    have hx := repL_map (f := fun v => v) (fun x cs h => h) _ _ g8
    rw [List.map_id', Nat.mul_one] at hx
    have hb : b < w.heap.size := (Array.getElem?_eq_some_iff.1 g4).1
    have hH : Sort.Holds enc3 w b off xs.toArray := by
      intro j hj
      have hj : j < xs.length := by simpa using hj
      constructor
      · rw [cell_of_row w b (off + j) cur e (0, 0) g4]
        have h1 := congrArg (fun l => l[j]?) hx
        simp only [List.getElem?_take, List.getElem?_drop, List.getElem?_map] at h1
        rw [if_pos (by omega), List.getElem?_eq_getElem hj] at h1
        rw [← Array.getElem?_toList, h1]
        simp [hj]
      · unfold World.frozen?
        rw [g4]
        simp
    obtain ⟨i0, hi0, hz1⟩ := sl_info
    have hlen : (xs.take r ++ xs.drop (r + 1) ++ List.replicate (r + 1 - r) ((none, 0, 0) : Sl3)).length = xs.length := by
      simp only [List.length_append, List.length_take, List.length_drop, List.length_replicate]; omega
    have hzl : (xs.take r ++ xs.drop (r + 1)).length = xs.length - 1 := by
      simp only [List.length_append, List.length_take, List.length_drop]; omega
    have := Go.Proofs.AnyE.slices_Delete Go.Proofs.Try.deleteS enc3 (fun _ => rfl) ((none, 0, 0) : Sl3) sl_zero i0 hi0 hz1 b off cap r (r + 1) xs.toArray w hH (by simpa using g5) g6.2 (by omega) (by simp; omega)
    have hcv : Calls Go.Proofs.Try.prog 87 #[.slice (some ⟨b, off, none⟩) xs.length cap, .int .i64 (r : Int), .int .i64 ((r : Int) + 1)] w fun e w' => e = .returned (.slice (some ⟨b, off, none⟩) (xs.length - (r + 1 - r)) cap) ∧ ∃ q, w' = Sort.putRow enc3 (Sort.ahead w q) b off (xs.take r ++ xs.drop (r + 1) ++ List.replicate (r + 1 - r) ((none, 0, 0) : Sl3)).toArray := this
    rw [List.length_map]
    refine hcv.mono ?_
    rintro en w' ⟨rfl, n, rfl⟩
    obtain ⟨cur', c1, c2, c3⟩ := putRow_heapA enc3 (n := n) (xs := xs) g4 hlen (by rw [Nat.mul_one]; exact hx)
    have hcells : (cur'.toList.drop off).take (xs.take r ++ xs.drop (r + 1)).length = (xs.take r ++ xs.drop (r + 1)).map enc3 := by
      have h1 := congrArg (List.take (xs.take r ++ xs.drop (r + 1)).length) c3
      rw [List.take_take, List.map_append, List.take_left' (by rw [List.length_map])] at h1
      rw [← h1]
      congr 1
      rw [hlen, hzl]; omega
    have hcm : cutA r (xs.map enc3) = (cutA r xs).map enc3 := cutA_map enc3 r xs
    have hcl : ((cutA r xs).map enc3).length = xs.length - 1 := by rw [List.length_map]; exact hzl
    refine ⟨_, rfl, ⟨cap, by rw [show r + 1 - r = 1 by omega]⟩, ?_, ?_⟩
    · rw [hcm]
      refine .inr ⟨b, off, cap, cur', e, rfl, ?_, g3, c1, ?_, ?_, ?_, ?_⟩
      · rw [hcl, show xs.length - (r + 1 - r) = xs.length - 1 by omega]
      · rw [hcl]; omega
      · rw [hcl]; exact ⟨by omega, g6.2⟩
      · rw [c2]; exact g7
      · rw [List.length_map, Nat.mul_one]
        show repL rV ((cutA r xs).map enc3) ((cur'.toList.drop off).take (xs.take r ++ xs.drop (r + 1)).length)
        rw [hcells]
        have := repL_of_map (R := rV) (f := fun v => v) ((cutA r xs).map enc3) fun x _ => rfl
        rwa [List.map_id'] at this
    · refine ⟨rfl, rfl, rfl, ?_, fun i hi hne => ?_⟩
      · rw [Sort.size_putRow]; exact Nat.le_refl _
      · have hne : b ≠ i := fun h => hne off (by rw [h])
        unfold Sort.putRow Sort.mapBlock
        show (Array.modify w.heap b _)[i]? = _
        rw [Array.getElem?_modify, if_neg hne]
theorem NestW.cut {lo : Nat} {w w' : World} {t : Ste} {v nv : Value} {ob : OB} {vs : List Value} {os : List OB} {r : Nat} (h : NestW lo w t v ob vs os) (hr : r < t.length) (ho : repOwn rV 1 w' (fun b => lo ≤ b) (cutA r vs) nv ob) (hb : OwnBut w w' ob) : NestW lo w' (cutA r t) nv ob (cutA r vs) (cutA r os) := by
  have lv := h.lenv
  have ll := h.leno
  have hl := cutA_len hr
  refine ⟨by rw [cutA_len (by omega), hl, lv], by rw [cutA_len (by omega), hl, ll], ho, fun j hj => ?_, fun j hj b o e => ?_, fun j k hj hk hne b o o' e => ?_⟩
  · rw [hl] at hj
    have hb2 := backG_lt hr hj
    rw [cutA_get [] hr, cutA_get undef (by omega), cutA_get none (by omega)]
    exact own_blk (h.row _ hb2) fun b o e => hb.block b (own_lt (e ▸ h.row _ hb2)).1 (h.sep _ hb2 b o e)
  · rw [hl] at hj
    rw [cutA_get none (by omega)] at e
    exact h.sep _ (backG_lt hr hj) b o e
  · rw [hl] at hj hk
    rw [cutA_get none (by omega)] at e ⊢
    exact h.dis _ _ (backG_lt hr hj) (backG_lt hr hk) (fun q => hne (backG_inj q)) b o o' e
theorem NestW.sls {lo : Nat} {w : World} {t : Ste} {v : Value} {ob : OB} {vs : List Value} {os : List OB} (h : NestW lo w t v ob vs os) : ∀ v ∈ vs, ∃ a l c, v = .slice a l c := by
  intro v hv
  obtain ⟨j, hj, rfl⟩ := List.getElem_of_mem hv
  have := h.row j (by rw [← h.lenv]; exact hj)
  rw [show vs.getD j undef = vs[j] by simp [List.getD_eq_getElem?_getD, hj]] at this
  rcases this with ⟨e, _⟩ | ⟨_, _, _, _, _, _, e, _⟩
  · exact ⟨_, _, _, e⟩
  · exact ⟨_, _, _, e⟩
def withPost (w : World) (t : Ste) (row : Int) : Ending → World → Prop := fun e w' => ∃ v, e = .returned (.tuple #[v, .int .i64 (withE t row)]) ∧ inI (withE t row) ∧ Below w.heap.size w w' ∧ (if withE t row = 0 then ∃ ob vs os, NestW w.heap.size w' (cutA row.toNat t) v ob vs os else v = .slice none 0 0)
theorem without_call {w : World} {S : Nat → Prop} {t : Ste} {row : Int} {tv : Value} (ht : (reps Go.Proofs.Try.prog tSte).c w S t [tv]) (hg : inI row) :
    Calls Go.Proofs.Try.prog 41 #[tv, .int .i64 row] w (withPost w t row) := by
  have ht0 := ht
  obtain ⟨tv', etv, ao, cap, e2, h1, h2, h3⟩ := ht
  cases etv
  have e2 : tv = .slice ao t.length cap := e2
  subst e2
  have keepT : ∀ {W : World}, Below w.heap.size w W → (reps Go.Proofs.Try.prog tSte).c W S t [.slice ao t.length cap] := fun hb => c_keep tSte ht0 ⟨hb.size, fun b hb' _ => hb.block b hb'.lt⟩ fun _ _ h => h
  go_enter Go.Proofs.Try.func41, Go.Proofs.Try.ntmps41
  refine (wpIn_wide (n := 0)).1 ?_
  show Code.wpIn (Fw none) 0 _ _ _ _ _
  refine wpIn_seq (ql_region rfl ?_)
  simp [ql, go_sem, Exit.then]
  refine wpIn_seq (wpIn_seq (ql_region rfl ?_))
  simp [ql, go_sem, Exit.then]
  refine (valS_call ht0).mono ?_
  rintro e W1 ⟨rfl, hi1, hb1⟩
  have hres : ∀ (tm : Array Value) (W : World), (results Go.Proofs.Try.f41 tm).run Go.Proofs.Try.prog W = .ok (.tuple #[tm.getD 4 undef, tm.getD 5 undef]) W := fun tm W => by simp [results, Go.Proofs.Try.results41, go_sem]
  by_cases c1 : validT t = 0
  case neg =>
    have hE : withE t row = validT t := by unfold withE; rw [if_neg c1]
    simp [ql, go_sem, Exit.then, c1]
    refine wpIn_seq (ql_region rfl ?_)
    simp [ql, go_sem, Exit.then, c1]
    refine wpIn_cond_true (by simp [Act.eval, c1]) (wpIn_seq (ql_region rfl ?_))
    simp [ql, go_sem, Exit.then]
    refine wpIn_ret ?_
    refine ⟨rfl, _, hres _ _, .slice none 0 0, by rw [hE]; rfl, by rw [hE]; exact hi1, hb1, ?_⟩
    rw [if_neg (by rw [hE]; exact c1)]
  have hok := validT_ok.1 c1
  have h8 := hok.1
  simp [ql, go_sem, Exit.then, c1]
  refine wpIn_seq (ql_region rfl ?_)
  simp [ql, go_sem, Exit.then, c1]
  refine wpIn_cond_false (by simp [Act.eval]) (wpIn_skip ?_)
  simp only [Exit.then]
  refine wpIn_seq (wpIn_seq (ql_region rfl ?_))
  simp [ql, go_sem, Exit.then]
  rw [show IntKind.i64.wrap ((t.length : Int) - 1) = (t.length : Int) - 1 from wrap_in (by unfold inI; omega)]
  refine (within_call hg (show inI 0 by unfold inI; omega) (show inI ((t.length : Int) - 1) by unfold inI; omega)).mono ?_
  rintro e W3 ⟨rfl, hb3⟩
  have hb03 := hb1.trans (hb3.mono hb1.size)
  by_cases c2 : within row 0 ((t.length : Int) - 1) = true
  case neg =>
    have hE : withE t row = 4 := by
      unfold withE
      rw [if_pos c1, if_neg (fun h => c2 (within_iff.2 ⟨h.1, by omega⟩))]
    simp [ql, go_sem, Exit.then, c2]
    refine wpIn_cond_true (by simp [Act.eval, c2]) (wpIn_seq (ql_region rfl ?_))
    simp [ql, go_sem, Exit.then]
    refine wpIn_ret ?_
    refine ⟨rfl, _, hres _ _, .slice none 0 0, by rw [hE]; rfl, by rw [hE]; unfold inI; omega, hb03, ?_⟩
    rw [if_neg (by rw [hE]; omega)]
  have hgw := within_iff.1 c2
  have hE : withE t row = 0 := by
    unfold withE
    rw [if_pos c1, if_pos ⟨hgw.1, by omega⟩]
  obtain ⟨r, rfl⟩ : ∃ r : Nat, row = r := ⟨row.toNat, by omega⟩
  have hrl : ∀ r ∈ t, r.length = goals8 t := fun r hr => (hok.2.2 r hr).1
  have h10 := hok.2.1
  simp [ql, go_sem, Exit.then, c2]
  refine wpIn_cond_false (by simp [Act.eval, c2]) (wpIn_skip ?_)
  simp only [Exit.then]
  refine wpIn_seq (ql_region rfl ?_)
  simp [ql, go_sem, Exit.then]
  refine (copied_call (keepT hb03) (by omega) (fun r hr => by rw [hrl r hr]; omega)).mono ?_
  rintro e W4 ⟨v, ob, vs, os, rfl, hN, hb4⟩
  have hs3 := hb03.size
  have hb04 := hb03.trans (hb4.mono hs3)
  have hN : NestW w.heap.size W4 t v ob vs os := hN.mono_lo hs3
  simp [ql, go_sem, Exit.then]
  rw [show IntKind.i64.wrap ((r : Int) + 1) = (r : Int) + 1 from wrap_in (by unfold inI; omega)]
  have hrt : r < t.length := by omega
  obtain ⟨bo, off, _, _, _, rfl, _⟩ := own_out hN.out (j := r) (by rw [hN.lenv]; exact hrt)
  have hbo := own_lt hN.out
  refine (delS_call hN.out hN.sls (by rw [hN.lenv]; exact hrt) (by rw [hN.lenv]; omega)).mono ?_
  rintro e W5 ⟨nv, rfl, ⟨c5, rfl⟩, hown, hbut⟩
  simp [ql, go_sem, Exit.then]
  refine wpIn_ret ?_
  have hs5 := hbut.size
  have hs4 := hb04.size
  refine ⟨rfl, _, hres _ _, _, by rw [hE]; rfl, by rw [hE]; unfold inI; omega, ⟨hbut.os.trans hb04.os, hbut.tape.trans hb04.tape, hbut.output.trans hb04.output, by omega, fun i hi => ?_⟩, ?_⟩
  · rw [hbut.block i (by omega) fun o e => by cases e; have := hbo.2; omega]
    exact hb04.block i hi
  · rw [if_pos hE, Int.toNat_natCast]
    exact ⟨_, _, _, hN.cut hrt hown hbut⟩
end Go.Tk
/- tinkerref08.Without, by hand. -/
set_option linter.unusedSimpArgs false
set_option linter.unusedVariables false
set_option linter.unnecessarySimpa false
set_option maxRecDepth 10000
set_option maxHeartbeats 2000000
namespace Go.Tk
open Go Go.RowKit
theorem ste_of_cells {w : World} {lo b off cap : Nat} {us : List Value} {t : Ste} (hl : us.length = t.length) (hc : cellsAt w b off us) (h1 : lo ≤ b) (h2 : b < w.heap.size) (hr : ∀ j, j < t.length → (reps Go.Proofs.Try.prog tInts).c w (fun b => lo ≤ b) (t.getD j []) [us.getD j undef]) (hcap : t.length ≤ cap) (hmax : t.length ≤ 1000) :
    (reps Go.Proofs.Try.prog tSte).c w (fun b => lo ≤ b) t [.slice (some ⟨b, off, none⟩) t.length cap] := by
  refine ⟨_, rfl, _, cap, rfl, hcap, by omega, .inr ⟨b, off, us, rfl, h1, h2, hc, ?_⟩⟩
  refine repL_one t us us (by
    have := repL_of_map (R := rV) (f := fun v => v) us fun x _ => rfl
    rwa [List.map_id'] at this) hl fun n x u hx hu => ?_
  have hn : n < t.length := (List.getElem?_eq_some_iff.1 hx).1
  have := hr n hn
  rw [List.getD_eq_getElem?_getD, List.getD_eq_getElem?_getD, hx, hu] at this
  exact this
theorem cutS_run {w : World} {lo : Nat} {t : Ste} {v : Value} {ob : OB} {vs : List Value} {r : Nat} (h : NestD lo w t v ob vs) (hr : r < t.length) (hl : t.length ≤ 1000) (hlo : lo ≤ w.heap.size) :
    ∃ b off cap, v = .slice (some ⟨b, off, none⟩) t.length cap ∧ t.length ≤ cap ∧ ∀ (ty : TypeId) W, W.heap = w.heap → ∃ w' nv, (∀ A2, A2 = (if cap = r + 1 then (⟨b, off, none⟩ : Addr) else ⟨b, off + (r + 1), none⟩) → (Builtin.append_ #[22, 22] ty #[.slice (some ⟨b, off, none⟩) r r, .slice (some A2) (t.length - (r + 1)) (cap - (r + 1))]).run Go.Proofs.Try.prog W = .ok nv w') ∧
      (reps Go.Proofs.Try.prog tSte).c w' (fun b => lo ≤ b) (cutA r t) [nv] ∧ Below W.heap.size W w' := by
  have lv := h.lenv
  have hrow := h.row
  rcases h.out with ⟨_, e, _⟩ | ⟨b, off, cap, cur, et, rfl, rfl, g3, g4, g5, g6, g7, g8⟩
  · rw [← lv, e] at hr; simp at hr
  rw [lv] at g5 g6
  refine ⟨b, off, cap, by rw [lv], g5, fun ty W hW => ?_⟩
  have hcv := repL_map (f := fun v => v) (fun x cs h => h) vs _ g8
  rw [List.map_id', Nat.mul_one] at hcv
  have hb : b < w.heap.size := (Array.getElem?_eq_some_iff.1 g4).1
  have g4W : W.heap[b]? = some (.cells cur et (0, 0)) := by rw [hW]; exact g4
  have hcW : cellsAt W b off vs := fun j u hu => by
    have hj : j < vs.length := (List.getElem?_eq_some_iff.1 hu).1
    have h1 := congrArg (fun l => l[j]?) hcv
    simp only [List.getElem?_take, List.getElem?_drop] at h1
    rw [if_pos hj, hu] at h1
    rw [row_cell g4W, ← Array.getElem?_toList]; exact h1
  have c1 : cellsAt W b off (vs.take r) := fun j u hu => by
    rw [List.getElem?_take] at hu
    split at hu
    · exact hcW j u hu
    · cases hu
  have c2 : cellsAt W b (off + (r + 1)) (vs.drop (r + 1)) := fun j u hu => by
    rw [List.getElem?_drop] at hu
    rw [Nat.add_assoc]
    exact hcW _ u hu
  obtain ⟨e3, t1, t2⟩ := ty_sl ((tyB_ok Go.Proofs.Try.prog tSte).1 22 (by kernel_rfl))
  have l1 : (vs.take r).length = r := by rw [List.length_take]; omega
  have l2 : (vs.drop (r + 1)).length = t.length - (r + 1) := by rw [List.length_drop]; omega
  have hcl := cutA_len hr
  have hcv2 : (cutA r vs).length = t.length - 1 := by rw [cutA_len (by omega), lv]
  have rows : ∀ w' : World, Below W.heap.size W w' → ∀ j, j < (cutA r t).length → (reps Go.Proofs.Try.prog tInts).c w' (fun b => lo ≤ b) ((cutA r t).getD j []) [(cutA r vs).getD j undef] := fun w' hb' j hj => by
    rw [hcl] at hj
    rw [cutA_get [] hr, cutA_get undef (by omega)]
    exact c_keep tInts (hrow _ (backG_lt hr hj)) ⟨by rw [← hW]; exact hb'.size, fun b hb2 _ => by rw [hb'.block b (by rw [hW]; exact hb2.lt), hW]⟩ fun _ _ h => h.1
  by_cases he : r + 1 = t.length
  · have hd : cutA r vs = vs.take r := by unfold cutA; rw [List.drop_eq_nil_of_le (by omega), List.append_nil]
    refine ⟨W, .slice (some ⟨b, off, none⟩) r r, fun A2 hA2 => ?_, ?_, Below.refl _ _⟩
    · rw [show t.length - (r + 1) = 0 by omega]
      exact app_none t1 t2 rfl
    · have := ste_of_cells (w := W) (lo := lo) (b := b) (off := off) (cap := r) (us := cutA r vs) (t := cutA r t) (by rw [hcv2, hcl]) (by rw [hd]; exact c1) g3 (by rw [hW]; exact hb) (rows W (Below.refl _ _)) (by omega) (by omega)
      rwa [show (cutA r t).length = r by omega] at this
  · have hne : vs.drop (r + 1) ≠ [] := fun e => by rw [e] at l2; simp at l2; omega
    obtain ⟨w', cap', cur', hr', q1, q2, q3, q4, q5, q6⟩ := app_lim (ty := ty) (w := W) (cap2 := cap - (r + 1)) t1 t2 rfl rfl c1 c2 hne (by omega) (by omega) (by omega)
    rw [l1, l2] at q2 q5 hr'
    have hlt : W.heap.size < w'.heap.size := (Array.getElem?_eq_some_iff.1 q1).1
    refine ⟨w', .slice (some ⟨W.heap.size, 0, none⟩) (r + (t.length - (r + 1))) cap', fun A2 hA2 => ?_, ?_, q6⟩
    · rw [if_neg (by omega)] at hA2
      subst hA2
      exact hr'
    · have hcc : cellsAt w' W.heap.size 0 (cutA r vs) := fun j u hu => by
        have hq : cutA r vs = cur'.toList.take (r + (t.length - (r + 1))) := q5.symm
        rw [hq, List.getElem?_take] at hu
        split at hu
        · rw [Nat.zero_add, row_cell q1, ← Array.getElem?_toList]; exact hu
        · cases hu
      have := ste_of_cells (w := w') (lo := lo) (b := W.heap.size) (off := 0) (cap := cap') (us := cutA r vs) (t := cutA r t) (by rw [hcv2, hcl]) hcc (by rw [hW]; exact hlo) hlt (rows w' q6) (by omega) (by omega)
      rwa [show (cutA r t).length = r + (t.length - (r + 1)) by omega] at this
def withPostD (w : World) (t : Ste) (row : Int) : Ending → World → Prop := fun e w' => ∃ v, e = .returned (.tuple #[v, .int .i64 (withE t row)]) ∧ (reps Go.Proofs.Try.prog tSte).c w' (fun b => w.heap.size ≤ b) (if withE t row = 0 then cutA row.toNat t else []) [v] ∧ inI (withE t row) ∧ Below w.heap.size w w'
theorem withR_call {w : World} {S : Nat → Prop} {t : Ste} {row : Int} {tv : Value} (ht : (reps Go.Proofs.Try.prog tSte).c w S t [tv]) (hg : inI row) :
    Calls Go.Proofs.Try.prog 42 #[tv, .int .i64 row] w (withPostD w t row) := by
  have ht0 := ht
  obtain ⟨tv', etv, ao, cap, e2, h1, h2, h3⟩ := ht
  cases etv
  have e2 : tv = .slice ao t.length cap := e2
  subst e2
  have keepT : ∀ {W : World}, Below w.heap.size w W → (reps Go.Proofs.Try.prog tSte).c W S t [.slice ao t.length cap] := fun hb => c_keep tSte ht0 ⟨hb.size, fun b hb' _ => hb.block b hb'.lt⟩ fun _ _ h => h
  go_enter Go.Proofs.Try.func42, Go.Proofs.Try.ntmps42
  refine (wpIn_wide (n := 0)).1 ?_
  show Code.wpIn (Fw none) 0 _ _ _ _ _
  refine wpIn_seq (ql_region rfl ?_)
  simp [ql, go_sem, Exit.then]
  refine wpIn_seq (ql_region rfl ?_)
  simp [ql, go_sem, Exit.then]
  refine (valR_call ht0).mono ?_
  rintro e W1 ⟨rfl, hi1, hb1⟩
  have hres : ∀ (tm : Array Value) (W : World), (results Go.Proofs.Try.f42 tm).run Go.Proofs.Try.prog W = .ok (.tuple #[tm.getD 4 undef, tm.getD 5 undef]) W := fun tm W => by simp [results, Go.Proofs.Try.results42, go_sem]
  by_cases c1 : validT t = 0
  case neg =>
    have hE : withE t row = validT t := by unfold withE; rw [if_neg c1]
    simp [ql, go_sem, Exit.then, c1]
    refine wpIn_seq (wpIn_seq (ql_region rfl ?_))
    simp [ql, go_sem, Exit.then, c1]
    refine wpIn_cond_true (by simp [Act.eval, c1]) (wpIn_seq (ql_region rfl ?_))
    simp [ql, go_sem, Exit.then]
    refine wpIn_ret ?_
    refine ⟨rfl, _, hres _ _, .slice none 0 0, by rw [hE]; rfl, ?_, by rw [hE]; exact hi1, hb1⟩
    rw [if_neg (by rw [hE]; exact c1)]
    exact nil_ste
  have hok := validT_ok.1 c1
  simp [ql, go_sem, Exit.then, c1]
  refine wpIn_seq (wpIn_seq (ql_region rfl ?_))
  simp [ql, go_sem, Exit.then, c1]
  refine wpIn_cond_false (by simp [Act.eval]) (wpIn_skip ?_)
  simp only [Exit.then]
  have h8 := hok.1
  have hbad : ∀ (tm : Array Value) (W : World), ¬ (0 ≤ row ∧ row < (t.length : Int)) → Below w.heap.size w W → tm.getD 4 undef = .slice none 0 0 → tm.getD 5 undef = .int .i64 4 → ∃ v, (results Go.Proofs.Try.f42 tm).run Go.Proofs.Try.prog W = .ok v W ∧ withPostD w t row (.returned v) W := by
    intro tm W hn hb q4 q5
    have hE : withE t row = 4 := by unfold withE; rw [if_pos c1, if_neg hn]
    refine ⟨_, hres _ _, .slice none 0 0, by rw [hE, q4, q5], ?_, by rw [hE]; unfold inI; omega, hb⟩
    rw [if_neg (by rw [hE]; omega)]
    exact nil_ste
  refine wpIn_seq (wpIn_seq (qlg_region ?_))
  by_cases n1 : row < 0
  · simp [qlg, Region.wanted, yielded, go_sem, Exit.then, n1]
    refine wpIn_cond_true (by simp [Act.eval]) (wpIn_seq (ql_region rfl ?_))
    simp [ql, go_sem, Exit.then]
    refine wpIn_ret ?_
    exact ⟨rfl, hbad _ W1 (by omega) hb1 rfl rfl⟩
  by_cases n2 : (t.length : Int) ≤ row
  · simp [qlg, Region.wanted, yielded, go_sem, Exit.then, n1, n2]
    refine wpIn_cond_true (by simp [Act.eval]) (wpIn_seq (ql_region rfl ?_))
    simp [ql, go_sem, Exit.then]
    refine wpIn_ret ?_
    exact ⟨rfl, hbad _ W1 (by omega) hb1 rfl rfl⟩
  simp [qlg, Region.wanted, yielded, go_sem, Exit.then, n1, n2]
  have hE : withE t row = 0 := by
    unfold withE
    rw [if_pos c1, if_pos ⟨by omega, by omega⟩]
  obtain ⟨r, rfl⟩ : ∃ r : Nat, row = r := ⟨row.toNat, by omega⟩
  have hrl : ∀ r ∈ t, r.length = goals8 t := fun r hr => (hok.2.2 r hr).1
  have h10 := hok.2.1
  refine wpIn_cond_false (by simp [Act.eval]) (wpIn_skip ?_)
  simp only [Exit.then]
  refine wpIn_seq (ql_region rfl ?_)
  simp [ql, go_sem, Exit.then]
  refine (copyR_call (keepT hb1) (by omega) (fun r hr => by rw [hrl r hr]; omega)).mono ?_
  rintro e W4 ⟨v, ob, vs, rfl, hN, hb4⟩
  have hs2 := hb1.size
  have hb04 := hb1.trans (hb4.mono hs2)
  have hs4 := hb04.size
  have hN : NestD w.heap.size W4 t v ob vs := hN.mono_lo hs2
  simp [ql, go_sem, Exit.then]
  obtain ⟨b3, off3, cap3, rfl, hcap3, hcut⟩ := cutS_run hN (r := r) (by omega) (by omega) hs4
  obtain ⟨W5, nv, hrun, hnew, hb5⟩ := hcut 22 W4.drew rfl
  have hw1 : IntKind.i64.wrap ((r : Int) + 1) = (r : Int) + 1 := wrap_in (by unfold inI; omega)
  have hfin : Pre (∀ tm : Array Value, tm.getD 4 undef = nv → tm.getD 5 undef = .int .i64 0 → (⟨tm, []⟩ : Act).defers = [] ∧ ∃ v, (results Go.Proofs.Try.f42 tm).run Go.Proofs.Try.prog W5 = .ok v W5 ∧ withPostD w t r (.returned v) W5) := ⟨fun tm q4 q5 => by
    refine ⟨rfl, _, hres _ _, nv, by rw [hE, q4, q5], ?_, by rw [hE]; unfold inI; omega, ?_⟩
    · rw [if_pos hE, Int.toNat_natCast]; exact hnew
    · have hb5' : Below W4.heap.size W4 W5 := (Below.refl _ W4).drew.trans hb5
      exact hb04.trans (hb5'.mono hs4)⟩
  obtain ⟨L, hL⟩ : ∃ L, L = t.length := ⟨_, rfl⟩
  rw [← hL] at hrun hcap3
  have hz0 : r + 1 ≤ L := by omega
  have hz00 : r ≤ cap3 := by omega
  have hz1 : (0 : Int) ≤ (r : Int) + 1 := by omega
  have hz2 : (r : Int) + 1 ≤ (L : Int) := by omega
  have hz3 : ((r : Int) + 1).toNat = r + 1 := by omega
  have hz4 : (L : Int) ≤ (cap3 : Int) := by omega
  obtain ⟨A2, hA2, hA2'⟩ : ∃ A2 : Addr, (if cap3 = r + 1 then some (⟨b3, off3, none⟩ : Addr) else some ⟨b3, off3 + (r + 1), none⟩) = some A2 ∧ A2 = (if cap3 = r + 1 then (⟨b3, off3, none⟩ : Addr) else ⟨b3, off3 + (r + 1), none⟩) := ⟨_, by split <;> rfl, rfl⟩
  have hrun' := hrun A2 hA2'
  have mixed := mix_ok
  rw [← hL]
  clear hA2' hrun hcut hN hnew hL
  refine wpIn_seq ((wpIn_wide (n := 0)).2 ?_)
  go_region_law_o (refine step_run rfl (.tmp 26) (.tmp 30) #[22, 22] rfl (by simp [Act.eval, Act.put]) (by simp [Act.eval, Act.put]) hrun' ?_)
  all_goals (
    simp only [Exit.then]
    refine wpIn_ret ?_
    exact hfin.h _ rfl rfl)
end Go.Tk
set_option linter.unusedSimpArgs false
set_option linter.unusedVariables false
set_option linter.unnecessarySimpa false
namespace Go.Tk
open Go Go.RowKit
abbrev cChecksL : Con := { A := (.cons (.sl (.sl .int)) (.cons (.sl .int) .nil)), R := (.cons .bool .nil), pre := fun x => True, F := fun x => (true, ()) }
def cChecksL_0 (Λ1 : Int → Prop) (t : (List (List Int))) (rows : (List Int)) (y0 : Bool) : Prop :=
  True ∧ (if (longT t) = true then (true = true ∧ (True ∧ (true = y0 ∧ True))) else (True ∧ (if (bif false then true else (decide ((List.length rows : Int) > (50 : Int)))) = true then (True ∧ (true = y0 ∧ True)) else (True ∧ (rows.length ≤ 1000000 ∧ (if (((if rowsT t rows = 0 then (if coverB t rows then 0 else 7) else rowsT t rows)) != ((if rowsT t rows = 0 then (if coverB t rows then 0 else 7) else rowsT t rows))) = true then (false = y0 ∧ True) else (if (((if rowsT t rows = 0 then (if coverB t rows then 0 else 7) else rowsT t rows)) != (0 : Int)) = true then (True ∧ (true = y0 ∧ True)) else (True ∧ (True ∧ Λ1 (0 : Int))))))))))
def cChecksL_1 (Λ1 : Int → Prop) (t : (List (List Int))) (rows : (List Int)) (y0 : Bool)  (i_1 : Int) : Prop :=
  if (decide (i_1 < (List.length ((if validT t = 0 then essT t else [])) : Int))) = true then (idx i_1 (List.length ((if validT t = 0 then essT t else [])) : Int) ∧ (True ∧ (if (!(decide ((List.getD ((if validT t = 0 then essT t else [])) (Int.toNat i_1) 0) ∈ rows))) = true then (false = y0 ∧ True) else (inI (i_1 + (1 : Int)) ∧ Λ1 (i_1 + (1 : Int)))))) else (if ((validT t) == (0 : Int)) = true then (True ∧ (if (bif true then ((validT t) == (0 : Int)) else false) = true then (True ∧ (if (bif true then (decide ((List.length ((if validT t = 0 then coverS t else [])) : Int) ≤ (List.length rows : Int))) else false) = true then (True ∧ (True ∧ ((bif true then true else false) = y0 ∧ True))) else (false = false ∧ (false = y0 ∧ True)))) else (false = false ∧ (false = false ∧ (false = y0 ∧ True))))) else (false = false ∧ (false = false ∧ (false = false ∧ (false = y0 ∧ True)))))
theorem cChecksL_law (h : ∀ (t : (List (List Int))) (rows : (List Int)), cChecksL.A.wf (t, rows, ()) → ∀ (Λ1 : Int → Prop), (∀ (i_1 : Int), cChecksL_1 Λ1 t rows true i_1 → Λ1 i_1) → cChecksL_0 Λ1 t rows true) : ConOK Go.Proofs.Try.prog 6 cChecksL := by
  refine lawL (Γ := [(29, cCheckCov), (30, cCheckCovR), (27, cCover), (22, cEssential), (26, cHasL8), (17, cLong8), (18, cSane8)]) (Θ := Th) (n := 69) [([1, 1, 1, 1, 1, 1, 1, 0, 1, 0], ⟨[(1, false), (6, true), (7, true), (8, true), (9, true), (10, true)], [(37, true)]⟩)] ⟨cCheckCov_ok, cCheckCovR_ok, cCover_ok, cEssential_ok, cHasL8_ok, cLong8_ok, cSane8_ok, trivial⟩ (by kernel_rfl) th_ok mix_ok Go.Proofs.Try.func6 (by kernel_rfl) ?_
  intro x hw hp Λ hC
  have h0 := h x.1 x.2.1 hw (fun i_1 => Λ [1, 1, 1, 1, 1, 1, 1, 0, 1, 0] ([(1, .d false (.sl .int) x.2.1), (6, .d true (.sl .int) ((if validT x.1 = 0 then coverS x.1 else []))), (7, .d true .int (validT x.1)), (8, .own 37 0), (9, .d true .int (validT x.1)), (10, .d true .int i_1)], [(37, .sl true .int ((if validT x.1 = 0 then essT x.1 else [])))])) (fun i_1 hb => hC [1, 1, 1, 1, 1, 1, 1, 0, 1, 0] ([(1, .d false (.sl .int) x.2.1), (6, .d true (.sl .int) ((if validT x.1 = 0 then coverS x.1 else []))), (7, .d true .int (validT x.1)), (8, .own 37 0), (9, .d true .int (validT x.1)), (10, .d true .int i_1)], [(37, .sl true .int ((if validT x.1 = 0 then essT x.1 else [])))]) (Eq.mpr (by kernel_rfl) hb))
  exact Eq.mpr (by kernel_rfl) h0
theorem cChecksL_ok : ConOK Go.Proofs.Try.prog 6 cChecksL := by
  refine cChecksL_law ?_
  intro t rows hw Λ1 h1
  unfold cChecksL_0
  refine ⟨trivial, ?_⟩
  cases hL : longT t
  · rw [if_neg (by simp)]
    refine ⟨trivial, ?_⟩
    by_cases h50 : rows.length > 50
    · rw [if_pos (by simp; omega)]
      exact ⟨trivial, rfl, trivial⟩
    · rw [if_neg (by simp; omega)]
      have h6 : rows.length ≤ 1000000 := by omega
      refine ⟨trivial, h6, ?_⟩
      rw [if_neg (by simp)]
      by_cases hr : rowsT t rows = 0
      · rw [if_pos hr]
        cases hc : coverB t rows
        · rw [if_pos (by rfl)]
          exact ⟨trivial, rfl, trivial⟩
        · rw [if_neg (by simp)]
          obtain ⟨g1, g2, g3⟩ := rowsT_ok hr
          have hv := validT_ok.2 g1
          refine ⟨trivial, trivial, ?_⟩
          have hlen : ((if validT t = 0 then essT t else []) : List Int).length ≤ 50 := by
            rw [if_pos hv]
            have := filt_nums_len (fun r => !coverB t (others t r)) t.length
            have h8 := g1.1
            show (essT t).length ≤ 50
            unfold essT
            omega
          have hin : ∀ r, r ∈ ((if validT t = 0 then essT t else []) : List Int) → r ∈ rows := by
            rw [if_pos hv]
            exact fun r h => ess_in g2 hc h
          have hle : ((if validT t = 0 then coverS t else []) : List Int).length ≤ rows.length := by
            rw [if_pos hv]
            rcases (coverS_spec t).2.2 rows g3 hc with h | h
            · omega
            · omega
          refine upto (n := ((if validT t = 0 then essT t else []) : List Int).length) (Q := fun i => Λ1 i) ?_ ?_ 0 (Nat.zero_le _)
          · apply h1; unfold cChecksL_1
            rw [if_neg (by simp), if_pos (by simp [hv])]
            refine ⟨trivial, ?_⟩
            rw [if_pos (by simp [hv])]
            refine ⟨trivial, ?_⟩
            rw [if_pos (by rw [cond_true, decide_eq_true_eq]; omega)]
            exact ⟨trivial, trivial, rfl, trivial⟩
          · intro i hi ih
            apply h1; unfold cChecksL_1
            rw [if_pos (by simpa using hi), Int.toNat_natCast]
            have hd := hin _ (mem_getD (d := 0) hi)
            refine ⟨idx_nat hi, trivial, ?_⟩
            rw [if_neg (by rw [decide_eq_true hd]; simp)]
            exact ⟨by unfold inI; omega, ih⟩
      · rw [if_neg hr, if_pos (by simpa using hr)]
        exact ⟨trivial, rfl, trivial⟩
  · rw [if_pos rfl]
    exact ⟨rfl, trivial, rfl, trivial⟩
end Go.Tk
set_option linter.unusedSimpArgs false
set_option linter.unusedVariables false
set_option linter.unnecessarySimpa false
namespace Go.Tk
open Go Go.RowKit
abbrev cCheap8r : Con := { A := (.cons (.sl (.sl .int)) (.cons (.sl .int) .nil)), R := (.cons (.sl .int) (.cons .int .nil)), pre := fun x => okT x.1 ∧ x.2.1.length = x.1.length ∧ (∀ c', c' ∈ x.2.1 → 1 ≤ c' ∧ c' ≤ 99), F := fun x => ((cheapT x.1 x.2.1).1, (cheapT x.1 x.2.1).2, ()) }
def cCheap8r_0 (Λ1 : (List Int) → Int → Int → Prop) (Λ2 : Int → Int → (List Int) → Int → Int → Prop) (t : (List (List Int))) (costs : (List Int)) (y0 : (List Int)) (y1 : Int) : Prop :=
  okT t ∧ Λ1 ([] : List Int) (-1 : Int) (0 : Int)
def cCheap8r_1 (Λ1 : (List Int) → Int → Int → Prop) (Λ2 : Int → Int → (List Int) → Int → Int → Prop) (t : (List (List Int))) (costs : (List Int)) (y0 : (List Int)) (y1 : Int)  (out_1 : (List Int)) (least_1 : Int) (bits_1 : Int) : Prop :=
  (0 ≤ (List.length t : Int) ∧ (List.length t : Int) < 64 ∧ inI ((1 : Int) * 2 ^ (Int.toNat (List.length t : Int)))) ∧ (if (decide (bits_1 < ((1 : Int) * 2 ^ (Int.toNat (List.length t : Int))))) = true then ((0 ≤ bits_1 ∧ bits_1 < 4294967296 ∧ 0 ≤ (List.length t : Int) ∧ (List.length t : Int) ≤ 60) ∧ ((okT t ∧ inT t (setOf (List.length t : Int).toNat bits_1.toNat) ∧ (setOf (List.length t : Int).toNat bits_1.toNat).length ≤ 1000000) ∧ (if ((List.length (metL t (setOf (List.length t : Int).toNat bits_1.toNat)) : Int) != (List.length (openL t) : Int)) = true then (inI (bits_1 + (1 : Int)) ∧ Λ1 out_1 least_1 (bits_1 + (1 : Int))) else Λ2 bits_1 least_1 out_1 (0 : Int) (0 : Int)))) else (out_1 = y0 ∧ least_1 = y1 ∧ True))
def cCheap8r_2 (Λ1 : (List Int) → Int → Int → Prop) (Λ2 : Int → Int → (List Int) → Int → Int → Prop) (t : (List (List Int))) (costs : (List Int)) (y0 : (List Int)) (y1 : Int) (bits_1 : Int) (least_1 : Int) (out_2 : (List Int)) (sum_2 : Int) (i_2 : Int) : Prop :=
  if (decide (i_2 < (List.length (setOf (List.length t : Int).toNat bits_1.toNat) : Int))) = true then (idx i_2 (List.length (setOf (List.length t : Int).toNat bits_1.toNat) : Int) ∧ (idx (List.getD (setOf (List.length t : Int).toNat bits_1.toNat) (Int.toNat i_2) 0) (List.length costs : Int) ∧ (inI (sum_2 + (List.getD costs (Int.toNat (List.getD (setOf (List.length t : Int).toNat bits_1.toNat) (Int.toNat i_2) 0)) 0)) ∧ (inI (i_2 + (1 : Int)) ∧ Λ2 bits_1 least_1 out_2 (sum_2 + (List.getD costs (Int.toNat (List.getD (setOf (List.length t : Int).toNat bits_1.toNat) (Int.toNat i_2) 0)) 0)) (i_2 + (1 : Int)))))) else (if (decide (least_1 < (0 : Int))) = true then (true = true ∧ (true = true ∧ (inI (bits_1 + (1 : Int)) ∧ Λ1 (setOf (List.length t : Int).toNat bits_1.toNat) sum_2 (bits_1 + (1 : Int))))) else (True ∧ (if (bif false then true else (decide (sum_2 < least_1))) = true then (true = true ∧ (inI (bits_1 + (1 : Int)) ∧ Λ1 (setOf (List.length t : Int).toNat bits_1.toNat) sum_2 (bits_1 + (1 : Int)))) else (if (sum_2 == least_1) = true then (((setOf (List.length t : Int).toNat bits_1.toNat).length ≤ 1000000 ∧ out_2.length ≤ 1000000) ∧ (True ∧ (True ∧ (if (bif false then true else (bif true then (decide (cmpL (setOf (List.length t : Int).toNat bits_1.toNat) out_2 < 0)) else false)) = true then (inI (bits_1 + (1 : Int)) ∧ Λ1 (setOf (List.length t : Int).toNat bits_1.toNat) sum_2 (bits_1 + (1 : Int))) else (inI (bits_1 + (1 : Int)) ∧ Λ1 out_2 least_1 (bits_1 + (1 : Int))))))) else (false = false ∧ (True ∧ (if (bif false then true else false) = true then (inI (bits_1 + (1 : Int)) ∧ Λ1 (setOf (List.length t : Int).toNat bits_1.toNat) sum_2 (bits_1 + (1 : Int))) else (inI (bits_1 + (1 : Int)) ∧ Λ1 out_2 least_1 (bits_1 + (1 : Int))))))))))
theorem cCheap8r_law (h : ∀ (t : (List (List Int))) (costs : (List Int)), cCheap8r.A.wf (t, costs, ()) → (okT t ∧ costs.length = t.length ∧ (∀ c', c' ∈ costs → 1 ≤ c' ∧ c' ≤ 99)) → ∀ (Λ1 : (List Int) → Int → Int → Prop) (Λ2 : Int → Int → (List Int) → Int → Int → Prop), (∀ (out_1 : (List Int)) (least_1 : Int) (bits_1 : Int), cCheap8r_1 Λ1 Λ2 t costs ((cheapT t costs).1) ((cheapT t costs).2) out_1 least_1 bits_1 → Λ1 out_1 least_1 bits_1) → (∀ (bits_1 : Int) (least_1 : Int) (out_2 : (List Int)) (sum_2 : Int) (i_2 : Int), cCheap8r_2 Λ1 Λ2 t costs ((cheapT t costs).1) ((cheapT t costs).2) bits_1 least_1 out_2 sum_2 i_2 → Λ2 bits_1 least_1 out_2 sum_2 i_2) → cCheap8r_0 Λ1 Λ2 t costs ((cheapT t costs).1) ((cheapT t costs).2)) : ConOK Go.Proofs.Try.prog 80 cCheap8r := by
  refine lawL (Γ := [(65, cBefore8r), (71, cMet8r), (61, cOpen8r), (63, cSub8r)]) (Θ := Th) (n := 69) [([1, 1, 1, 1, 0, 1, 0], ⟨[(0, false), (1, false), (6, true), (7, true), (8, true), (9, true)], []⟩), ([1, 1, 1, 1, 0, 1, 0, 0, 1, 0, 0, 1, 1, 1, 0, 1, 0], ⟨[(0, false), (1, false), (6, true), (7, true), (8, true), (9, true), (10, true), (11, true), (12, true)], [(26, true)]⟩)] ⟨cBefore8r_ok, cMet8r_ok, cOpen8r_ok, cSub8r_ok, trivial⟩ (by kernel_rfl) th_ok mix_ok Go.Proofs.Try.func80 (by kernel_rfl) ?_
  intro x hw hp Λ hC
  have h0 := h x.1 x.2.1 hw hp (fun out_1 least_1 bits_1 => Λ [1, 1, 1, 1, 0, 1, 0] ([(0, .d false (.sl (.sl .int)) x.1), (1, .d false (.sl .int) x.2.1), (6, .d true .int (List.length (openL x.1) : Int)), (7, .d true (.sl .int) out_1), (8, .d true .int least_1), (9, .d true .int bits_1)], [])) (fun bits_1 least_1 out_2 sum_2 i_2 => Λ [1, 1, 1, 1, 0, 1, 0, 0, 1, 0, 0, 1, 1, 1, 0, 1, 0] ([(0, .d false (.sl (.sl .int)) x.1), (1, .d false (.sl .int) x.2.1), (6, .d true .int (List.length (openL x.1) : Int)), (7, .d true (.sl .int) out_2), (8, .d true .int least_1), (9, .d true .int bits_1), (10, .own 26 0), (11, .d true .int sum_2), (12, .d true .int i_2)], [(26, .sl true .int (setOf (List.length x.1 : Int).toNat bits_1.toNat))])) (fun out_1 least_1 bits_1 hb => hC [1, 1, 1, 1, 0, 1, 0] ([(0, .d false (.sl (.sl .int)) x.1), (1, .d false (.sl .int) x.2.1), (6, .d true .int (List.length (openL x.1) : Int)), (7, .d true (.sl .int) out_1), (8, .d true .int least_1), (9, .d true .int bits_1)], []) (Eq.mpr (by kernel_rfl) hb)) (fun bits_1 least_1 out_2 sum_2 i_2 hb => hC [1, 1, 1, 1, 0, 1, 0, 0, 1, 0, 0, 1, 1, 1, 0, 1, 0] ([(0, .d false (.sl (.sl .int)) x.1), (1, .d false (.sl .int) x.2.1), (6, .d true .int (List.length (openL x.1) : Int)), (7, .d true (.sl .int) out_2), (8, .d true .int least_1), (9, .d true .int bits_1), (10, .own 26 0), (11, .d true .int sum_2), (12, .d true .int i_2)], [(26, .sl true .int (setOf (List.length x.1 : Int).toNat bits_1.toNat))]) (Eq.mpr (by kernel_rfl) hb))
  exact Eq.mpr (by kernel_rfl) h0
theorem cCheap8r_ok : ConOK Go.Proofs.Try.prog 80 cCheap8r := by
  refine cCheap8r_law ?_
  intro t costs hw hp Λ1 Λ2 h1 h2
  unfold cCheap8r_0
  obtain ⟨ht, hl, hc⟩ := hp
  have h8 := ht.1
  obtain ⟨n, hn⟩ : ∃ n, n = t.length := ⟨_, rfl⟩
  have h2n : 2 ^ n ≤ 256 := Nat.le_trans (Nat.pow_le_pow_right (by omega) (show n ≤ 8 by omega)) (by decide)
  obtain ⟨N, hN⟩ : ∃ N : Nat, N = 2 ^ n := ⟨_, rfl⟩
  rw [← hN] at h2n
  have e : (1 : Int) * 2 ^ (Int.toNat ((t.length : Nat) : Int)) = (N : Int) := by rw [Int.toNat_natCast, ← hn, Int.one_mul, hN]; norm_cast
  refine ⟨ht, ?_⟩
  refine upto (n := N) (Q := fun b => Λ1 (cheapK t costs b).1 (cheapK t costs b).2 b) ?_ ?_ 0 (Nat.zero_le _)
  · apply h1; unfold cCheap8r_1
    refine ⟨⟨by omega, by omega, by rw [e]; unfold inI; omega⟩, ?_⟩
    rw [if_neg (by rw [decide_eq_true_eq, e]; omega)]
    have : cheapK t costs N = cheapT t costs := by
      unfold cheapK cheapT
      rw [List.take_of_length_le (by rw [setsL_len, ← hn, ← hN]; exact Nat.le_refl _)]
    rw [this]
    exact ⟨rfl, rfl, trivial⟩
  · intro b hb ih
    apply h1; unfold cCheap8r_1
    refine ⟨⟨by omega, by omega, by rw [e]; unfold inI; omega⟩, ?_⟩
    rw [if_pos (by rw [decide_eq_true_eq, e]; omega)]
    rw [cheapK_succ (by rw [← hn, ← hN]; exact hb)] at ih
    have hol := cheapK_len t costs b
    obtain ⟨S, hS⟩ : ∃ S, S = setOf t.length b := ⟨_, rfl⟩
    have hSe : setOf (Int.toNat ((t.length : Nat) : Int)) (Int.toNat (b : Int)) = S := by rw [Int.toNat_natCast, Int.toNat_natCast, hS]
    have hSl : S.length ≤ 8 := by rw [hS]; have := setOf_len t.length b; omega
    have hSm : ∀ r ∈ S, 0 ≤ r ∧ r < t.length := fun r hr => setOf_mem (by rw [← hS]; exact hr)
    rw [← hS] at ih
    rw [hSe]
    generalize cheapK t costs b = st at ih hol ⊢
    obtain ⟨out, least⟩ := st
    have hin : inI ((b : Int) + 1) := by unfold inI; omega
    refine ⟨⟨by omega, by omega, by omega, by omega⟩, ⟨ht, hSm, by omega⟩, ?_⟩
    unfold stepC at ih
    by_cases hcv : (metL t S).length = (openL t).length
    · have hcB : coverB t S = true := by unfold coverB; simpa using hcv
      rw [if_neg (by simp [hcv])]
      have hv : ∀ r ∈ S, 0 ≤ costs.getD r.toNat 0 ∧ costs.getD r.toNat 0 ≤ 99 := fun r hr => by
        have q := hSm r hr
        have := hc _ (mem_getD (d := 0) (l := costs) (i := r.toNat) (by omega))
        omega
      have hsb : ∀ i, 0 ≤ ((S.take i).map fun r => costs.getD r.toNat 0).sum ∧ ((S.take i).map fun r => costs.getD r.toNat 0).sum ≤ 1000 := fun i => by
        have := sum_bound (l := S.take i) (f := fun r => costs.getD r.toNat 0) (a := 0) (b := 99) fun g hg => hv g (List.mem_of_mem_take hg)
        have h2 : (S.take i).length ≤ 8 := by rw [List.length_take]; omega
        omega
      refine upto (n := S.length) (Q := fun i => Λ2 (b : Int) least out (((S.take i).map fun r => costs.getD r.toNat 0).sum) (i : Int)) ?_ ?_ 0 (Nat.zero_le _)
      · apply h2; unfold cCheap8r_2
        rw [hSe, if_neg (by simp), List.take_length]
        have hce : (S.map fun r => costs.getD r.toNat 0).sum = costOf costs S := rfl
        rw [hce]
        dsimp only at ih hol
        by_cases l0 : least < 0
        · rw [if_pos (by simpa using l0)]
          rw [if_pos ⟨hcB, .inl l0⟩] at ih
          exact ⟨rfl, rfl, hin, ih⟩
        · rw [if_neg (by simpa using l0)]
          refine ⟨trivial, ?_⟩
          by_cases l1 : costOf costs S < least
          · rw [if_pos (by simpa using l1)]
            rw [if_pos ⟨hcB, .inr (.inl l1)⟩] at ih
            exact ⟨rfl, hin, ih⟩
          · rw [if_neg (by simpa using l1)]
            by_cases l2 : costOf costs S = least
            · rw [if_pos (by simp [l2])]
              refine ⟨⟨by omega, by omega⟩, trivial, trivial, ?_⟩
              by_cases l3 : cmpL S out < 0
              · rw [if_pos (by simpa using l3)]
                rw [if_pos ⟨hcB, .inr (.inr ⟨l2, l3⟩)⟩] at ih
                exact ⟨hin, ih⟩
              · rw [if_neg (by simpa using l3)]
                rw [if_neg (by omega)] at ih
                exact ⟨hin, ih⟩
            · rw [if_neg (by simpa using l2)]
              rw [if_neg (by omega)] at ih
              refine ⟨rfl, trivial, ?_⟩
              rw [if_neg (by simp)]
              exact ⟨hin, ih⟩
      · intro i hi ihi
        apply h2; unfold cCheap8r_2
        rw [hSe, if_pos (by simpa using hi), Int.toNat_natCast]
        have h5 := hsb i
        have h6 := hSm _ (mem_getD (d := 0) hi)
        have h7 := hv _ (mem_getD (d := 0) hi)
        rw [sum_take (f := fun r => costs.getD r.toNat 0) hi] at ihi
        generalize S.getD i 0 = g at h6 h7 ihi ⊢
        exact ⟨idx_nat hi, ⟨h6.1, by omega⟩, by unfold inI; omega, by unfold inI; omega, ihi⟩
    · rw [if_pos (by simp; omega)]
      rw [if_neg (fun q => hcv (by have := q.1; unfold coverB at this; simpa using this))] at ih
      exact ⟨hin, ih⟩
abbrev cCoverR : Con := { A := (.cons (.sl (.sl .int)) .nil), R := (.cons (.sl .int) (.cons .int .nil)), pre := fun x => True, F := fun x => ((if validT x.1 = 0 then coverS x.1 else []), validT x.1, ()) }
def cCoverR_0 (Λ1 : Int → (List Int) → Prop) (t : (List (List Int))) (y0 : (List Int)) (y1 : Int) : Prop :=
  True ∧ (if ((validT t) != (0 : Int)) = true then (([] : List Int) = y0 ∧ (validT t) = y1 ∧ True) else Λ1 (0 : Int) ([] : List Int))
def cCoverR_1 (Λ1 : Int → (List Int) → Prop) (t : (List (List Int))) (y0 : (List Int)) (y1 : Int)  (i_1 : Int) (costs_1 : (List Int)) : Prop :=
  if (decide (i_1 < (List.length t : Int))) = true then (List.length costs_1 + List.length [(1 : Int)] ≤ 4294967296 ∧ (inI (i_1 + (1 : Int)) ∧ Λ1 (i_1 + (1 : Int)) (costs_1 ++ [(1 : Int)]))) else ((okT t ∧ costs_1.length = t.length ∧ (∀ c', c' ∈ costs_1 → 1 ≤ c' ∧ c' ≤ 99)) ∧ (((cheapT t costs_1).1) = y0 ∧ (0 : Int) = y1 ∧ True))
theorem cCoverR_law (h : ∀ (t : (List (List Int))), cCoverR.A.wf (t, ()) → ∀ (Λ1 : Int → (List Int) → Prop), (∀ (i_1 : Int) (costs_1 : (List Int)), cCoverR_1 Λ1 t (if validT t = 0 then coverS t else []) (validT t) i_1 costs_1 → Λ1 i_1 costs_1) → cCoverR_0 Λ1 t (if validT t = 0 then coverS t else []) (validT t)) : ConOK Go.Proofs.Try.prog 31 cCoverR := by
  refine lawL (Γ := [(80, cCheap8r), (36, cVal8r)]) (Θ := Th) (n := 30) [([1, 1, 1, 1, 0, 1, 0], ⟨[(0, false), (5, true), (6, true)], [(5, true)]⟩)] ⟨cCheap8r_ok, cVal8r_ok, trivial⟩ (by kernel_rfl) th_ok mix_ok Go.Proofs.Try.func31 (by kernel_rfl) ?_
  intro x hw hp Λ hC
  have h0 := h x.1 hw (fun i_1 costs_1 => Λ [1, 1, 1, 1, 0, 1, 0] ([(0, .d false (.sl (.sl .int)) x.1), (5, .own 5 0), (6, .d true .int i_1)], [(5, .sl true .int costs_1)])) (fun i_1 costs_1 hb => hC [1, 1, 1, 1, 0, 1, 0] ([(0, .d false (.sl (.sl .int)) x.1), (5, .own 5 0), (6, .d true .int i_1)], [(5, .sl true .int costs_1)]) (Eq.mpr (by kernel_rfl) hb))
  exact Eq.mpr (by kernel_rfl) h0
theorem cCoverR_ok : ConOK Go.Proofs.Try.prog 31 cCoverR := by
  refine cCoverR_law ?_
  intro t hw Λ1 h1
  unfold cCoverR_0
  refine ⟨trivial, ?_⟩
  by_cases h0 : validT t = 0
  · rw [if_neg (by simp [h0])]
    rw [if_pos h0, h0] at h1
    have ht := validT_ok.1 h0
    have h8 := ht.1
    refine upto (n := t.length) (Q := fun i => Λ1 i (List.replicate i 1)) ?_ ?_ 0 (Nat.zero_le _)
    · apply h1; unfold cCoverR_1
      rw [if_neg (by simp)]
      refine ⟨⟨ht, by simp, fun c' hc' => by rw [List.eq_of_mem_replicate hc']; omega⟩, ?_, rfl, trivial⟩
      rw [cheap_ones]
    · intro i hi ih
      apply h1; unfold cCoverR_1
      rw [if_pos (by simpa using hi)]
      rw [List.replicate_succ'] at ih
      exact ⟨by simp; omega, by unfold inI; omega, ih⟩
  · rw [if_pos (by simp [h0]), if_neg h0]
    exact ⟨rfl, rfl, trivial⟩
abbrev cCoversL : Con := { A := (.cons (.sl (.sl .int)) .nil), R := (.cons .bool .nil), pre := fun x => True, F := fun x => (true, ()) }
def cCoversL_0  (t : (List (List Int))) (y0 : Bool) : Prop :=
  True ∧ (if (longT t) = true then (True ∧ (true = y0 ∧ True)) else (True ∧ (True ∧ (True ∧ (if (!(decide (((if validT t = 0 then coverS t else [])) = ((if validT t = 0 then coverS t else []))))) = true then (true = true ∧ (false = y0 ∧ True)) else (True ∧ (if (bif false then true else ((validT t) != (validT t))) = true then (false = y0 ∧ True) else (if ((validT t) != (0 : Int)) = true then (True ∧ (true = y0 ∧ True)) else (True ∧ (True ∧ (if (((if rowsT t ((if validT t = 0 then coverS t else [])) = 0 then (if coverB t ((if validT t = 0 then coverS t else [])) then 0 else 7) else rowsT t ((if validT t = 0 then coverS t else [])))) == (0 : Int)) = true then (True ∧ (if (bif true then ((validT t) == (0 : Int)) else false) = true then (True ∧ (if (bif true then (decide ((List.length ((if validT t = 0 then exclT t else [])) : Int) ≤ (List.length ((if validT t = 0 then coverS t else [])) : Int))) else false) = true then (True ∧ (True ∧ ((bif true then true else false) = y0 ∧ True))) else (false = false ∧ (false = y0 ∧ True)))) else (false = false ∧ (false = false ∧ (false = y0 ∧ True))))) else (false = false ∧ (false = false ∧ (false = false ∧ (false = y0 ∧ True)))))))))))))))
theorem cCoversL_law (h : ∀ (t : (List (List Int))), cCoversL.A.wf (t, ()) → cCoversL_0  t true) : ConOK Go.Proofs.Try.prog 7 cCoversL := by
  refine lawL (Γ := [(29, cCheckCov), (27, cCover), (31, cCoverR), (19, cExcluding), (17, cLong8), (21, cSameI8), (18, cSane8)]) (Θ := Th) (n := 57) [] ⟨cCheckCov_ok, cCover_ok, cCoverR_ok, cExcluding_ok, cLong8_ok, cSameI8_ok, cSane8_ok, trivial⟩ (by kernel_rfl) th_ok mix_ok Go.Proofs.Try.func7 (by kernel_rfl) ?_
  intro x hw hp Λ hC
  have h0 := h x.1 hw  
  exact Eq.mpr (by kernel_rfl) h0
theorem cCoversL_ok : ConOK Go.Proofs.Try.prog 7 cCoversL := by
  refine cCoversL_law ?_
  intro t hw
  unfold cCoversL_0
  refine ⟨trivial, ?_⟩
  cases hL : longT t
  · rw [if_neg (by simp)]
    refine ⟨trivial, trivial, trivial, ?_⟩
    rw [if_neg (by simp)]
    refine ⟨trivial, ?_⟩
    rw [if_neg (by simp)]
    by_cases h0 : validT t = 0
    · rw [if_neg (by simp [h0])]
      have ht := validT_ok.1 h0
      obtain ⟨s1, s2, _⟩ := coverS_spec t
      have hr : rowsT t (coverS t) = 0 := by unfold rowsT; rw [if_pos h0, s1]; rfl
      have hle := excl_le_cover ht (isSet8_in s1) s2
      have hle' : ((exclT t).length : Int) ≤ (coverS t).length := by omega
      simp [h0, hr, s2, hle, hle']
    · rw [if_pos (by simp [h0])]
      exact ⟨trivial, rfl, trivial⟩
  · rw [if_pos rfl]
    exact ⟨trivial, rfl, trivial⟩
end Go.Tk
/- SuiteDrops. -/
set_option linter.unusedSimpArgs false
set_option linter.unusedVariables false
set_option linter.unnecessarySimpa false
namespace Go.Tk
open Go Go.RowKit
abbrev cDrop : Con := { A := (.cons (.sl (.sl .int)) (.cons .int .nil)), R := (.cons (.sl (.sl .int)) (.cons .int .nil)), pre := fun x => True, F := fun x => ((if dropE x.1 x.2.1 = 0 then dropT x.1 (x.2.1).toNat else []), dropE x.1 x.2.1, ()) }
theorem cDrop_ok : ConOK Go.Proofs.Try.prog 37 cDrop := by
  refine ConOK.f ?_ rfl
  rintro w S ⟨t, goal, ⟨⟩⟩ vs hv _
  change Ste at t
  change Int at goal
  obtain ⟨tv, vs1, b1, b2, rfl, _, ⟨_, xc, ex, hpr⟩, gv, vs2, b3, b4, rfl, _, ⟨_, zc, ez, hoi, hio⟩, rfl, _⟩ := hv
  have hpr0 := hpr
  obtain ⟨tv', exc, hps⟩ := hpr
  subst exc
  subst hoi
  obtain rfl : tv = tv' := ex
  obtain rfl : gv = .int .i64 goal := ez
  have hpr : (reps Go.Proofs.Try.prog tSte).c w S t [tv] := hpr0
  refine (drop_call hpr hio).mono ?_
  rintro e w' ⟨v, rfl, h1, h2, hb⟩
  have h1' : (reps Go.Proofs.Try.prog tSte).c w' (fun b => (w.heap.size ≤ b ∨ cDrop.al = true ∧ S b) ∧ b ∉ ([] : List Nat)) (if dropE t goal = 0 then dropT t goal.toNat else []) [v] := c_mono tSte h1 fun b _ h => ⟨.inl h, by simp⟩
  exact ⟨[v, .int .i64 (dropE t goal)], [], rfl, ⟨v, [.int .i64 (dropE t goal)], [], [], rfl, rfl, ⟨rfl, [v], rfl, h1'⟩, .int .i64 (dropE t goal), [], [], [], rfl, rfl, ⟨rfl, [_], rfl, rfl, h2⟩, rfl, rfl⟩, by simp, by simp, hb⟩
abbrev cDropR : Con := { A := (.cons (.sl (.sl .int)) (.cons .int .nil)), R := (.cons (.sl (.sl .int)) (.cons .int .nil)), pre := fun x => True, F := fun x => ((if dropE x.1 x.2.1 = 0 then dropT x.1 (x.2.1).toNat else []), dropE x.1 x.2.1, ()) }
theorem cDropR_ok : ConOK Go.Proofs.Try.prog 38 cDropR := by
  refine ConOK.f ?_ rfl
  rintro w S ⟨t, goal, ⟨⟩⟩ vs hv _
  change Ste at t
  change Int at goal
  obtain ⟨tv, vs1, b1, b2, rfl, _, ⟨_, xc, ex, hpr⟩, gv, vs2, b3, b4, rfl, _, ⟨_, zc, ez, hoi, hio⟩, rfl, _⟩ := hv
  have hpr0 := hpr
  obtain ⟨tv', exc, hps⟩ := hpr
  subst exc
  subst hoi
  obtain rfl : tv = tv' := ex
  obtain rfl : gv = .int .i64 goal := ez
  have hpr : (reps Go.Proofs.Try.prog tSte).c w S t [tv] := hpr0
  refine (dropR_call hpr hio).mono ?_
  rintro e w' ⟨v, rfl, h1, h2, hb⟩
  have h1' : (reps Go.Proofs.Try.prog tSte).c w' (fun b => (w.heap.size ≤ b ∨ cDropR.al = true ∧ S b) ∧ b ∉ ([] : List Nat)) (if dropE t goal = 0 then dropT t goal.toNat else []) [v] := c_mono tSte h1 fun b _ h => ⟨.inl h, by simp⟩
  exact ⟨[v, .int .i64 (dropE t goal)], [], rfl, ⟨v, [.int .i64 (dropE t goal)], [], [], rfl, rfl, ⟨rfl, [v], rfl, h1'⟩, .int .i64 (dropE t goal), [], [], [], rfl, rfl, ⟨rfl, [_], rfl, rfl, h2⟩, rfl, rfl⟩, by simp, by simp, hb⟩
abbrev cSameD : Con := { A := (.cons (.sl (.sl .int)) (.cons (.sl (.sl .int)) .nil)), R := (.cons .bool .nil), pre := fun x => x.1.length ≤ 1000000 ∧ x.2.1.length ≤ 1000000, F := fun x => (decide (x.1 = x.2.1), ()) }
def cSameD_0 (Λ1 : Int → Prop) (s : (List (List Int))) (t : (List (List Int))) (y0 : Bool) : Prop :=
  if ((List.length s : Int) != (List.length t : Int)) = true then (false = y0 ∧ True) else Λ1 (0 : Int)
def cSameD_1 (Λ1 : Int → Prop) (s : (List (List Int))) (t : (List (List Int))) (y0 : Bool)  (i_1 : Int) : Prop :=
  if (decide (i_1 < (List.length s : Int))) = true then (idx i_1 (List.length s : Int) ∧ (idx i_1 (List.length t : Int) ∧ (True ∧ (if (!(decide ((List.getD s (Int.toNat i_1) ([] : List Int)) = (List.getD t (Int.toNat i_1) ([] : List Int))))) = true then (false = y0 ∧ True) else (inI (i_1 + (1 : Int)) ∧ Λ1 (i_1 + (1 : Int))))))) else (true = y0 ∧ True)
theorem cSameD_law (h : ∀ (s : (List (List Int))) (t : (List (List Int))), cSameD.A.wf (s, t, ()) → (s.length ≤ 1000000 ∧ t.length ≤ 1000000) → ∀ (Λ1 : Int → Prop), (∀ (i_1 : Int), cSameD_1 Λ1 s t (decide (s = t)) i_1 → Λ1 i_1) → cSameD_0 Λ1 s t (decide (s = t))) : ConOK Go.Proofs.Try.prog 39 cSameD := by
  refine lawL (Γ := [(21, cSameI8)]) (Θ := Th) (n := 27) [([1, 1, 0, 1, 0], ⟨[(0, false), (1, false), (5, true)], []⟩)] ⟨cSameI8_ok, trivial⟩ (by kernel_rfl) th_ok mix_ok Go.Proofs.Try.func39 (by kernel_rfl) ?_
  intro x hw hp Λ hC
  have h0 := h x.1 x.2.1 hw hp (fun i_1 => Λ [1, 1, 0, 1, 0] ([(0, .d false (.sl (.sl .int)) x.1), (1, .d false (.sl (.sl .int)) x.2.1), (5, .d true .int i_1)], [])) (fun i_1 hb => hC [1, 1, 0, 1, 0] ([(0, .d false (.sl (.sl .int)) x.1), (1, .d false (.sl (.sl .int)) x.2.1), (5, .d true .int i_1)], []) (Eq.mpr (by kernel_rfl) hb))
  exact Eq.mpr (by kernel_rfl) h0
theorem cSameD_ok : ConOK Go.Proofs.Try.prog 39 cSameD := by
  refine cSameD_law ?_
  intro s t hw hp Λ1 h1
  unfold cSameD_0
  obtain ⟨p1, p2⟩ := hp
  by_cases hl : s.length = t.length
  · rw [if_neg (by simp [hl])]
    refine upto (n := s.length) (Q := fun i => s.take i = t.take i → Λ1 i) ?_ ?_ 0 (Nat.zero_le _) rfl
    · intro ha
      rw [List.take_length, List.take_of_length_le (by omega)] at ha
      apply h1; unfold cSameD_1; rw [if_neg (by simp)]
      exact ⟨by simp [ha], trivial⟩
    · intro i hi ih ha
      apply h1; unfold cSameD_1; rw [if_pos (by simpa using hi), Int.toNat_natCast]
      refine ⟨idx_nat hi, idx_nat (by omega), trivial, ?_⟩
      by_cases hv : List.getD s i [] = List.getD t i []
      · rw [if_neg (by rw [decide_eq_true hv]; simp)]
        exact ⟨by unfold inI; omega, ih (take_eq_next [] hi hl ha hv)⟩
      · rw [if_pos (by rw [decide_eq_false hv]; rfl)]
        exact ⟨by simp [ne_at [] hv], trivial⟩
  · rw [if_pos (by simp; omega)]
    exact ⟨by simp; exact fun e => hl (by rw [e]), trivial⟩
abbrev cDropsL : Con := { A := (.cons (.sl (.sl .int)) (.cons .int .nil)), R := (.cons .bool .nil), pre := fun x => True, F := fun x => (true, ()) }
def cDropsL_0  (t : (List (List Int))) (goal : Int) (y0 : Bool) : Prop :=
  True ∧ (if (longT t) = true then (True ∧ (true = y0 ∧ True)) else (True ∧ (True ∧ ((((if dropE t goal = 0 then dropT t (goal).toNat else [])).length ≤ 1000000 ∧ ((if dropE t goal = 0 then dropT t (goal).toNat else [])).length ≤ 1000000) ∧ (if (!(decide (((if dropE t goal = 0 then dropT t (goal).toNat else [])) = ((if dropE t goal = 0 then dropT t (goal).toNat else []))))) = true then (true = true ∧ (false = y0 ∧ True)) else (True ∧ (if (bif false then true else ((dropE t goal) != (dropE t goal))) = true then (false = y0 ∧ True) else (if ((dropE t goal) != (0 : Int)) = true then (True ∧ (true = y0 ∧ True)) else (True ∧ (True ∧ (if ((validT t) == (0 : Int)) = true then (True ∧ (if (bif true then ((validT ((if dropE t goal = 0 then dropT t (goal).toNat else []))) == (0 : Int)) else false) = true then (True ∧ (if (bif true then (decide ((List.length ((if validT ((if dropE t goal = 0 then dropT t (goal).toNat else [])) = 0 then coverS ((if dropE t goal = 0 then dropT t (goal).toNat else [])) else [])) : Int) ≤ (List.length ((if validT t = 0 then coverS t else [])) : Int))) else false) = true then (True ∧ (True ∧ ((bif true then true else false) = y0 ∧ True))) else (false = false ∧ (false = y0 ∧ True)))) else (false = false ∧ (false = false ∧ (false = y0 ∧ True))))) else (false = false ∧ (false = false ∧ (false = false ∧ (false = y0 ∧ True)))))))))))))))
theorem cDropsL_law (h : ∀ (t : (List (List Int))) (goal : Int), cDropsL.A.wf (t, goal, ()) → cDropsL_0  t goal true) : ConOK Go.Proofs.Try.prog 9 cDropsL := by
  refine lawL (Γ := [(27, cCover), (37, cDrop), (38, cDropR), (17, cLong8), (39, cSameD), (18, cSane8)]) (Θ := Th) (n := 66) [] ⟨cCover_ok, cDrop_ok, cDropR_ok, cLong8_ok, cSameD_ok, cSane8_ok, trivial⟩ (by kernel_rfl) th_ok mix_ok Go.Proofs.Try.func9 (by kernel_rfl) ?_
  intro x hw hp Λ hC
  have h0 := h x.1 x.2.1 hw  
  exact Eq.mpr (by kernel_rfl) h0
theorem cDropsL_ok : ConOK Go.Proofs.Try.prog 9 cDropsL := by
  refine cDropsL_law ?_
  intro t goal hw
  unfold cDropsL_0
  refine ⟨trivial, ?_⟩
  cases hL : longT t
  · rw [if_neg (by simp)]
    refine ⟨trivial, ?_⟩
    by_cases h : dropE t goal = 0
    · have hv : validT t = 0 ∧ 0 ≤ goal ∧ goal < (goals8 t : Int) := by
        unfold dropE at h
        split at h
        · rename_i g
          split at h
          · rename_i g2; exact ⟨g, g2⟩
          · omega
        · rename_i g; exact absurd h g
      obtain ⟨hv, hg1, hg2⟩ := hv
      have ht := validT_ok.1 hv
      have hg : goal.toNat < goals8 t := by omega
      have h0' := validT_ok.2 (drop_ok ht hg)
      have hk := drop_len t goal.toNat
      have hc := drop_cover ht hg
      have h8 := ht.1
      simp [h, hv, h0', hk, hc]
      omega
    · simp [h]
  · rw [if_pos rfl]
    exact ⟨trivial, rfl, trivial⟩
end Go.Tk
