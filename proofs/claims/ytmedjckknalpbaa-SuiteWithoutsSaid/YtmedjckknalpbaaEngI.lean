/- The engine, part I: arithmetic, comparisons, closures, len, slicing, append, copy do what their abstract twins say. No conditions. -/
import Derived.Test.YtmedjckknalpbaaEngH
import Derived.ChangeKeysEq
set_option linter.unusedSimpArgs false
set_option linter.unusedVariables false
namespace Go.Tk
open Go Go.RowKit

theorem wrap_in {n : Int} (h : inI n) : IntKind.i64.wrap n = n := by
  rw [IntKind.wrap_i64]
  unfold inI at h
  omega

theorem wrap_inI (n : Int) : inI (IntKind.i64.wrap n) := by
  rw [IntKind.wrap_i64]
  unfold inI
  omega

theorem fdiv_inI {x : Int} (h : inI x) (k : Nat) : inI (x.fdiv (2 ^ k)) := by
  have hd : (0 : Int) < 2 ^ k := Int.pow_pos (by decide)
  rw [Int.fdiv_eq_ediv_of_nonneg _ (Int.le_of_lt hd)]
  unfold inI at *
  generalize (2 : Int) ^ k = d at hd
  constructor
  · rw [Int.le_ediv_iff_mul_le hd]
    have : (-9223372036854775808 : Int) * d ≤ -9223372036854775808 * 1 := Int.mul_le_mul_of_nonpos_left (by omega) (by omega)
    omega
  · refine Int.ediv_le_of_le_mul hd ?_
    have : (9223372036854775807 : Int) * 1 ≤ 9223372036854775807 * d := Int.mul_le_mul_of_nonneg_left (by omega) (by omega)
    omega

section
variable {P : Program} {B : Bs} {G : Nat → Gh} {m m' : Mem} {w w0 : World} {cx : Cx}

theorem eqGuard_plain (op : BinOp) (t : TypeId) (x y : Operand) {a b : Value} (ha : ∀ cs, a ≠ .agg cs) (hn : a ≠ .nilIface) : (eqGuard op t x y a b).run P w = .ok () w := by
  cases a <;> first
    | exact absurd rfl (ha _)
    | exact absurd rfl hn
    | (cases op <;> rfl)

theorem eqGuard_agg (op : BinOp) (t : TypeId) (x y : Operand) (h : P.eqGuardType P.depth t = false) (a b : Array Value) : (eqGuard op t x y (.agg a) (.agg b)).run P w = .ok () w := by
  cases op <;> first
    | rfl
    | simp [eqGuard, h]

theorem aInt_ok (hm : MRel P B G m w w0) {op : BinOp} {a b : Int} {e : Eff} (h : aInt op a b = some e) (hpre : e.pre) (ha : inI a) (hb : inI b) (ty : TypeId) :
    ∃ v, (binOp op ty (.int .i64 a) (.int .i64 b)).run P w = .ok v w ∧ Post P B w0 G m w e v w := by
  cases op <;> simp only [aInt, eff, Option.some.injEq, reduceCtorEq] at h <;> subst h
  case add => exact ⟨_, by simp [binOp, Op.intArith, wrap_in hpre], Post.eff hm (int_rep hpre)⟩
  case sub => exact ⟨_, by simp [binOp, Op.intArith, wrap_in hpre], Post.eff hm (int_rep hpre)⟩
  case mul => exact ⟨_, by simp [binOp, Op.intArith, wrap_in hpre], Post.eff hm (int_rep hpre)⟩
  case quo => obtain ⟨h1, h2⟩ : b ≠ 0 ∧ inI (a.tdiv b) := hpre; exact ⟨_, by simp [binOp, Op.intDiv, h1, wrap_in h2], Post.eff hm (int_rep h2)⟩
  case rem => obtain ⟨h1, h2⟩ : b ≠ 0 ∧ inI (a.tmod b) := hpre; exact ⟨_, by simp [binOp, Op.intDiv, h1], Post.eff hm (int_rep h2)⟩
  case and => exact ⟨_, by simp [binOp, Op.intBits]; rfl, Post.eff hm (int_rep (wrap_inI _))⟩
  case or => exact ⟨_, by simp [binOp, Op.intBits]; rfl, Post.eff hm (int_rep (wrap_inI _))⟩
  case eql => exact ⟨.bool (a == b), by simp [binOp, Op.intCmp], Post.eff hm bool_rep⟩
  case neq => exact ⟨.bool (a != b), by simp [binOp, Op.intCmp], Post.eff hm bool_rep⟩
  case lss => exact ⟨.bool (decide (a < b)), by simp [binOp, Op.intCmp], Post.eff hm bool_rep⟩
  case leq => exact ⟨.bool (decide (a ≤ b)), by simp [binOp, Op.intCmp], Post.eff hm bool_rep⟩
  case gtr => exact ⟨.bool (decide (a > b)), by simp [binOp, Op.intCmp], Post.eff hm bool_rep⟩
  case geq => exact ⟨.bool (decide (a ≥ b)), by simp [binOp, Op.intCmp], Post.eff hm bool_rep⟩
  case shl =>
    obtain ⟨h1, h2, h3⟩ : 0 ≤ b ∧ b < 64 ∧ inI (a * 2 ^ b.toNat) := hpre
    have e1 : min b.toNat IntKind.i64.bits = b.toNat := by have : IntKind.i64.bits = 64 := rfl; omega
    exact ⟨_, by simp [binOp, Op.shift, Int.not_lt.2 h1, e1, wrap_in h3], Post.eff hm (int_rep h3)⟩
  case shr =>
    obtain ⟨h1, h2⟩ : 0 ≤ b ∧ b < 64 := hpre
    have e1 : min b.toNat IntKind.i64.bits = b.toNat := by have : IntKind.i64.bits = 64 := rfl; omega
    exact ⟨_, by simp only [binOp, Op.shift, if_neg (Int.not_lt.2 h1), e1]; rfl, Post.eff hm (int_rep (fdiv_inI ha _))⟩

/-! ### '==' of two structs -/
mutual
theorem eq_run {S S' : Nat → Prop} : ∀ (t : T) (d : Nat) (i : TypeId) (x y : t.den) (cs ds : List Value), t.hasEq = true → t.ht ≤ d → (tys P t).ty i → (reps P t).c w S x cs → (reps P t).c w S' y ds →
    (Op.equalIn d i (mkV t cs) (mkV t ds)).run P w = .ok (t.eqB x y) w
  | .int, d + 1, i, x, y, cs, ds, _, _, ht, hc, hd => by
    rw [hc.1, hd.1]
    simp [mkV, T.agg, Op.equalIn, run_underlying ht.1, T.eqB]
  | .bool, d + 1, i, x, y, cs, ds, _, _, ht, hc, hd => by
    have e1 : cs = [.bool x] := hc
    have e2 : ds = [.bool y] := hd
    rw [e1, e2]
    simp [mkV, T.agg, Op.equalIn, run_underlying ht.1, T.eqB]
  | .nil, d + 1, i, x, y, cs, ds, he, _, ht, hc, hd => by
    obtain ⟨⟨fs, h1, h2⟩, h3, h4⟩ := ht
    have hf : P.fieldsOf i = fs := by simp [Program.fieldsOf, h1]
    show (Op.equalIn (d + 1) i (.agg cs.toArray) (.agg ds.toArray)).run P w = _
    rw [run_equalIn_struct w d i _ _ (by rw [hf]; exact h1) (h4 rfl rfl).1, hf, h2]
    rfl
  | .cons a b, d + 1, i, x, y, cs, ds, he, hd, ht, hc, hd' => by
    obtain ⟨⟨fs, h1, f, l, h2, h3, h4, h5, h6, h7⟩, h8, h9⟩ := ht
    have hf : P.fieldsOf i = fs := by simp [Program.fieldsOf, h1]
    show (Op.equalIn (d + 1) i (.agg cs.toArray) (.agg ds.toArray)).run P w = _
    rw [run_equalIn_struct w d i _ _ (by rw [hf]; exact h1) (h9 he rfl).1, hf]
    have hl1 := c_len (.cons a b) hc
    have hl2 := c_len (.cons a b) hd'
    refine eq_fl (S := S) (S' := S') (.cons a b) d fs.toList 0 x y cs.toArray ds.toArray he hd ⟨f, l, h2, h3, h4, h5, h6, by rw [Nat.zero_add]; exact h7⟩ ?_ ?_
    · rw [List.drop_zero, List.toList_toArray, List.take_of_length_le (by omega)]; exact hc
    · rw [List.drop_zero, List.toList_toArray, List.take_of_length_le (by omega)]; exact hd'
  | .sl _, _, _, _, _, _, _, h, _, _, _, _ => by simp [T.hasEq] at h
  | .osl _, _, _, _, _, _, _, h, _, _, _, _ => by simp [T.hasEq] at h
  | .ref _, _, _, _, _, _, _, h, _, _, _, _ => by simp [T.hasEq] at h
  | .arr _ _, _, _, _, _, _, _, h, _, _, _, _ => by simp [T.hasEq] at h
  | .fn _ _, _, _, _, _, _, _, h, _, _, _, _ => by simp [T.hasEq] at h
  | .int, 0, _, _, _, _, _, _, h, _, _, _ => by simp [T.ht] at h
  | .bool, 0, _, _, _, _, _, _, h, _, _, _ => by simp [T.ht] at h
  | .nil, 0, _, _, _, _, _, _, h, _, _, _ => by simp [T.ht] at h
  | .cons _ _, 0, _, _, _, _, _, _, h, _, _, _ => by simp [T.ht] at h

theorem eq_fl {S S' : Nat → Prop} : ∀ (t : T) (d : Nat) (l : List Field) (o : Nat) (x y : t.den) (cs ds : Array Value), t.hasEq = true → t.ht ≤ d + 1 → (tys P t).fl l o → (reps P t).c w S x ((cs.toList.drop o).take t.csize) → (reps P t).c w S' y ((ds.toList.drop o).take t.csize) →
    (Op.eqFields d cs ds l).run P w = .ok (t.eqB x y) w
  | .nil, d, l, o, x, y, cs, ds, _, _, hl, _, _ => by
    have e : l = [] := hl
    rw [e]; rfl
  | .cons a b, d, l, o, x, y, cs, ds, he, hd, ⟨f, l', e, h1, h2, h3, h4, h5⟩, ⟨c1, c2, ec, k1, k2⟩, ⟨d1, d2, ed, k3, k4⟩ => by
    simp only [T.hasEq, Bool.and_eq_true] at he
    have split : ∀ (l c1 c2 : List Value), (l.drop o).take (a.csize + b.csize) = c1 ++ c2 → c1.length = a.csize → c1 = (l.drop o).take a.csize ∧ c2 = (l.drop (o + a.csize)).take b.csize := by
      intro l c1 c2 h hl
      have e1 : ((l.drop o).take (a.csize + b.csize)).take a.csize = c1 := by rw [h, ← hl, List.take_left']; rfl
      have e2 : ((l.drop o).take (a.csize + b.csize)).drop a.csize = c2 := by rw [h, ← hl, List.drop_left']; rfl
      rw [List.take_take, Nat.min_eq_left (by omega)] at e1
      rw [List.drop_take, List.drop_drop, Nat.add_sub_cancel_left] at e2
      exact ⟨e1.symm, e2.symm⟩
    obtain ⟨q1, q2⟩ := split _ _ _ ec (c_len a k1)
    obtain ⟨q3, q4⟩ := split _ _ _ ed (c_len a k3)
    have p1 := run_part (P := P) (w := w) h4 (cs := cs) (off := o) (by rw [← q1]; exact k1)
    have p2 := run_part (P := P) (w := w) h4 (cs := ds) (off := o) (by rw [← q3]; exact k3)
    simp only [T.ht] at hd
    have r1 := eq_run (S := S) (S' := S') a d f.type x.1 y.1 ((cs.toList.drop o).take a.csize) ((ds.toList.drop o).take a.csize) he.1 (by omega) h4 (by rw [← q1]; exact k1) (by rw [← q3]; exact k3)
    subst e
    rw [Op.eqFields, if_pos h3]
    rw [h1]
    simp only [Sem.run_bind, p1, p2, r1, Result.andThen_ok]
    show _ = Result.ok (a.eqB x.1 y.1 && b.eqB x.2 y.2) w
    cases hq : a.eqB x.1 y.1
    · simp
    · simp only [Bool.not_true, Bool.false_eq_true, if_false, Bool.true_and]
      exact eq_fl (S := S) (S' := S') b d l' (o + a.csize) x.2 y.2 cs ds he.2 (by omega) h5 (by rw [← q2]; exact k2) (by rw [← q4]; exact k4)
  | .int, _, _, _, _, _, _, _, _, _, h, _, _ => h.elim
  | .bool, _, _, _, _, _, _, _, _, _, h, _, _ => h.elim
  | .sl _, _, _, _, _, _, _, _, _, _, h, _, _ => h.elim
  | .osl _, _, _, _, _, _, _, _, _, _, h, _, _ => h.elim
  | .ref _, _, _, _, _, _, _, _, _, _, h, _, _ => h.elim
  | .arr _ _, _, _, _, _, _, _, _, _, _, h, _, _ => h.elim
  | .fn _ _, _, _, _, _, _, _, _, _, _, h, _, _ => h.elim
end

theorem aBin_ok (hk : Cok P cx) (hm : MRel P B G m w w0) {op : BinOp} {ty : TypeId} {x y : V} {e : Eff} (h : aBin cx op ty x y = some e) (hpre : e.pre) {vx vy : Value} (hx : ERep P B G m w x vx) (hy : ERep P B G m w y vy) (ox oy : Operand) :
    ∃ v, (do eqGuard op ty ox oy vx vy; binOp op ty vx vy : Sem Value).run P w = .ok v w ∧ Post P B w0 G m w e v w := by
  unfold aBin at h
  split at h
  · rename_i f a g b
    change Int at a
    change Int at b
    obtain ⟨rfl, ha⟩ := int_val hx
    obtain ⟨rfl, hb⟩ := int_val hy
    obtain ⟨v, h1, h2⟩ := aInt_ok hm h hpre ha hb ty
    exact ⟨v, by rw [Sem.run_bind, eqGuard_plain op ty ox oy (by simp) (by simp)]; exact h1, h2⟩
  · rename_i f a n
    change Int at a
    obtain ⟨rfl, ha⟩ := int_val hx
    have hy : vy = .int .u64 n := hy
    subst hy
    split at h
    · cases h
      obtain ⟨h1, h2⟩ : 0 ≤ n ∧ n < 64 := hpre
      have e1 : min n.toNat IntKind.i64.bits = n.toNat := by have : IntKind.i64.bits = 64 := rfl; omega
      refine ⟨_, ?_, Post.eff hm (int_rep (fdiv_inI ha _))⟩
      rw [Sem.run_bind, eqGuard_plain _ ty ox oy (by simp) (by simp)]
      simp only [Result.andThen_ok, binOp, Op.shift, if_neg (Int.not_lt.2 h1), e1]
      rfl
    · cases h
      obtain ⟨h1, h2, h3⟩ : 0 ≤ n ∧ n < 64 ∧ inI (a * 2 ^ n.toNat) := hpre
      have e1 : min n.toNat IntKind.i64.bits = n.toNat := by have : IntKind.i64.bits = 64 := rfl; omega
      refine ⟨_, ?_, Post.eff hm (int_rep h3)⟩
      rw [Sem.run_bind, eqGuard_plain _ ty ox oy (by simp) (by simp)]
      simp [binOp, Op.shift, Int.not_lt.2 h1, e1, wrap_in h3, shlI]
    · cases h
  · rename_i f t xs
    have hy : vy = .slice none 0 0 := hy
    subst hy
    obtain ⟨cs, rfl, v, rfl, ⟨ao, cap, rfl, _, _, hao⟩, hnil⟩ := hx
    have key : ∀ u, lk cx.Θ ty = some (.sl u) → (Op.equal ty (.slice ao (List.length xs) cap) (.slice none 0 0)).run P w = .ok ao.isNone w := by
      intro u hu
      obtain ⟨e, h1, _⟩ := ty_sl (hk.Θ _ _ hu)
      have h1' := run_underlying h1 w
      have gen : ∀ d, (Op.equalIn (d + 1) ty (.slice ao (List.length xs) cap) (.slice none 0 0)).run P w = .ok ao.isNone w := by
        intro d
        cases ao <;> simp [Op.equalIn, h1']
      exact gen 9999
    have hemp : ao.isNone = true → xs = [] := by
      intro h
      rcases hao with h2 | ⟨b, off, cs, h2, _⟩
      · exact h2
      · rw [h2] at h; cases h
    have hemp2 : xs.isEmpty = ao.isNone := by
      cases hx : xs with
      | nil =>
        have h1 := hnil hx
        injection h1 with h1
        rw [h1]
        rfl
      | cons x l =>
        cases ha : ao with
        | none => rw [hemp (by rw [ha]; rfl)] at hx; cases hx
        | some a => rfl
    split at h
    · rename_i u hu
      cases h
      refine ⟨.bool ao.isNone, ?_, Post.eff hm (by rw [hemp2]; exact bool_rep)⟩
      rw [Sem.run_bind, eqGuard_plain _ ty ox oy (by simp [mkV, T.agg]) (by simp [mkV, T.agg])]
      simp [mkV, T.agg, binOp, key u hu]
    · rename_i u hu
      cases h
      refine ⟨.bool (!ao.isNone), ?_, Post.eff hm (by rw [hemp2]; exact bool_rep)⟩
      rw [Sem.run_bind, eqGuard_plain _ ty ox oy (by simp [mkV, T.agg]) (by simp [mkV, T.agg])]
      simp [mkV, T.agg, binOp, key u hu]
    · cases h
  · rename_i f t xs
    have hy : vy = .slice none 0 0 := hy
    subst hy
    obtain ⟨cs, rfl, v, rfl, ao, cap, rfl, _, _, hao⟩ := hx
    have key : ∀ u, lk cx.Θ ty = some (.sl u) → (Op.equal ty (.slice ao (List.length xs) cap) (.slice none 0 0)).run P w = .ok ao.isNone w := by
      intro u hu
      obtain ⟨e, h1, _⟩ := ty_sl (hk.Θ _ _ hu)
      have h1' := run_underlying h1 w
      have gen : ∀ d, (Op.equalIn (d + 1) ty (.slice ao (List.length xs) cap) (.slice none 0 0)).run P w = .ok ao.isNone w := by
        intro d
        cases ao <;> simp [Op.equalIn, h1']
      exact gen 9999
    have hemp : ao.isNone = true → xs = [] := by
      intro h
      rcases hao with h2 | ⟨b, off, cs, h2, _⟩
      · exact h2
      · rw [h2] at h; cases h
    split at h
    · rename_i u hu
      cases h
      refine ⟨.bool ao.isNone, ?_, Post.eff hm ⟨_, rfl, hemp, fun _ => trivial⟩⟩
      rw [Sem.run_bind, eqGuard_plain _ ty ox oy (by simp [mkV, T.agg]) (by simp [mkV, T.agg])]
      simp [mkV, T.agg, binOp, key u hu]
    · rename_i u hu
      cases h
      refine ⟨.bool (!ao.isNone), ?_, Post.eff hm ⟨_, rfl, fun _ => trivial, fun h => hemp (by simpa using h)⟩⟩
      rw [Sem.run_bind, eqGuard_plain _ ty ox oy (by simp [mkV, T.agg]) (by simp [mkV, T.agg])]
      simp [mkV, T.agg, binOp, key u hu]
    · cases h
  · rename_i a b
    have hx : vx = .int .u64 a := hx
    have hy : vy = .int .u64 b := hy
    subst hx; subst hy
    split at h
    · cases h
      refine ⟨_, ?_, Post.eff hm bool_rep⟩
      rw [Sem.run_bind, eqGuard_plain _ ty ox oy (by simp) (by simp)]
      simp [binOp, Op.intCmp]
    · cases h
  · rename_i f a g b
    change Bool at a
    change Bool at b
    obtain rfl := bool_val hx
    obtain rfl := bool_val hy
    have key : ∀ t, lk cx.Θ ty = some t → t = .bool → (Op.equal ty (.bool a) (.bool b)).run P w = .ok (a == b) w := by
      rintro t ht rfl
      exact eq_run (S := fun _ => True) (S' := fun _ => True) .bool 10000 ty a b [.bool a] [.bool b] rfl (by show 1 ≤ 10000; omega) (hk.Θ _ _ ht) rfl rfl
    split at h
    · rename_i ht
      cases h
      refine ⟨_, ?_, Post.eff hm bool_rep⟩
      rw [Sem.run_bind, eqGuard_plain _ ty ox oy (by simp) (by simp)]
      simp [binOp, key _ ht rfl]
    · rename_i ht
      cases h
      refine ⟨_, ?_, Post.eff hm bool_rep⟩
      rw [Sem.run_bind, eqGuard_plain _ ty ox oy (by simp) (by simp)]
      simp [binOp, key _ ht rfl]
    · cases h
  · rename_i f a g b
    split at h
    · rename_i harr
      obtain ⟨et, u1, u2, u3⟩ := hk.X.arr _ harr
      obtain ⟨cs, rfl, hc⟩ := hx
      obtain ⟨ds, rfl, hd⟩ := hy
      have two : ∀ (xs : List Int) (es : List Value) (S : Nat → Prop), (reps P (.arr 2 .int)).c w S xs es → ∃ p q, xs = [p, q] ∧ es = [.int .i64 p, .int .i64 q] := by
        intro xs es S h
        obtain ⟨h1, h2⟩ := h
        match xs, h1 with
        | [p, q], _ =>
          obtain ⟨c1, c2, e1, ⟨g1, _⟩, c3, c4, e2, ⟨g2, _⟩, e3⟩ := h2
          have e3 : c4 = [] := e3
          exact ⟨p, q, rfl, by rw [e1, e2, g1, g2, e3]; rfl⟩
      obtain ⟨p, q, rfl, rfl⟩ := two a cs _ hc
      obtain ⟨p', q', rfl, rfl⟩ := two b ds _ hd
      obtain ⟨fi, i1, i2, i3, i4⟩ := tys_info u2
      have hcell : P.cellsOf et = 1 := by simp [Program.cellsOf, i1, i2, T.csize]
      have hgd : (eqGuard op ty ox oy (mkV (.arr 2 .int) [.int .i64 p, .int .i64 q]) (mkV (.arr 2 .int) [.int .i64 p', .int .i64 q'])).run P w = .ok () w := eqGuard_agg op ty ox oy u3 _ _
      have pr : ∀ x y : Int, (part et #[.int .i64 x, .int .i64 y] 0).run P w = .ok (.int .i64 x) w ∧ (part et #[.int .i64 x, .int .i64 y] 1).run P w = .ok (.int .i64 y) w := by
        intro x y
        unfold part
        constructor <;> (rw [Sem.run_bind, tys_agg u2]; simp [T.agg])
      have heq : (Op.equal ty (mkV (.arr 2 .int) [.int .i64 p, .int .i64 q]) (mkV (.arr 2 .int) [.int .i64 p', .int .i64 q'])).run P w = .ok (p == p' && q == q') w := by
        have r1 := run_underlying u2.1 w
        have gen : ∀ d, (Op.equalIn (d + 1 + 1) ty (.agg #[.int .i64 p, .int .i64 q]) (.agg #[.int .i64 p', .int .i64 q'])).run P w = .ok (p == p' && q == q') w := by
          intro d
          rw [run_equalIn_array w (d + 1) _ _ u1 i1, hcell]
          have eq1 : ∀ x y : Int, (Op.equalIn (d + 1) et (.int .i64 x) (.int .i64 y)).run P w = .ok (x == y) w := by
            intro x y
            simp [Op.equalIn, r1]
          have hr : List.range 2 = [0, 1] := by decide
          rw [hr]
          have p1 := (pr p q).1
          have p2 := (pr p q).2
          have p3 := (pr p' q').1
          have p4 := (pr p' q').2
          have e1 := eq1 p p'
          have e2 := eq1 q q'
          cases h1 : (p == p')
          · rw [h1] at e1
            simp [Op.eqItems, p1, p3, e1]
          · rw [h1] at e1
            cases h2 : (q == q')
            · rw [h2] at e2
              simp [Op.eqItems, p1, p2, p3, p4, e1, e2]
            · rw [h2] at e2
              simp [Op.eqItems, p1, p2, p3, p4, e1, e2]
        exact gen 9998
      have hmk : ∀ es, mkV (.arr 2 .int) es = .agg es.toArray := fun _ => rfl
      rw [hmk, hmk] at hgd heq ⊢
      split at h
      · cases h
        exact ⟨_, by rw [Sem.run_bind, hgd]; simp [binOp, heq], Post.eff hm bool_rep⟩
      · cases h
        exact ⟨_, by rw [Sem.run_bind, hgd]; simp [binOp, heq], Post.eff hm bool_rep⟩
      · cases h
    · cases h
  · rename_i f s t a g u b
    split at h
    · rename_i r ht
      split at h
      · rename_i hq
        simp only [Bool.and_eq_true] at hq
        obtain ⟨⟨hq1, hq2⟩, hq3⟩ := hq
        split at h
        · rename_i hu
          obtain rfl := T.beq_eq hu
          have hty := hk.Θ _ _ ht
          rw [← T.beq_eq hq1] at hty
          obtain ⟨cs, rfl, hc⟩ := hx
          obtain ⟨ds, rfl, hd⟩ := hy
          have hgd : (eqGuard op ty ox oy (mkV (.cons s t) cs) (mkV (.cons s t) ds)).run P w = .ok () w := eqGuard_agg op ty ox oy (hty.2.2 hq2 rfl).2 _ _
          have heq : (Op.equal ty (mkV (.cons s t) cs) (mkV (.cons s t) ds)).run P w = .ok ((T.cons s t).eqB a b) w :=
            eq_run (.cons s t) 10000 ty a b cs ds hq2 (by have := Nat.le_of_ble_eq_true hq3; omega) hty hc hd
          have hmk : ∀ cs, mkV (.cons s t) cs = .agg cs.toArray := fun _ => rfl
          rw [hmk, hmk] at hgd heq ⊢
          split at h
          · cases h
            exact ⟨_, by rw [Sem.run_bind, hgd]; simp [binOp, heq], Post.eff hm bool_rep⟩
          · cases h
            exact ⟨_, by rw [Sem.run_bind, hgd]; simp [binOp, heq], Post.eff hm bool_rep⟩
          · cases h
        · cases h
      · cases h
    · cases h
  · cases h

theorem aUn_ok (hm : MRel P B G m w w0) {op : UnOp} {x : V} {e : Eff} (h : aUn op x = some e) (hpre : e.pre) {vx : Value} (hx : ERep P B G m w x vx) : ∃ v, (Op.unary op vx).run P w = .ok v w ∧ Post P B w0 G m w e v w := by
  unfold aUn at h
  split at h
  · cases h
    obtain rfl := bool_val hx
    exact ⟨_, by simp [Op.unary], Post.eff hm bool_rep⟩
  · rename_i f n
    change Int at n
    cases h
    obtain ⟨rfl, hn⟩ := int_val hx
    have hp : inI (-n) := hpre
    have e : (0 : Int) - n = -n := by omega
    exact ⟨_, by simp [Op.unary, Op.intArith, wrap_in hp, negI], Post.eff hm (int_rep hp)⟩
  · cases h

theorem aConvert_ok (hk : Cok P cx) (hm : MRel P B G m w w0) {s d : TypeId} {x : V} {e : Eff} (h : aConvert cx s d x = some e) {vx : Value} (hx : ERep P B G m w x vx) : ∃ v, (convert s d vx).run P w = .ok v w ∧ Post P B w0 G m w e v w := by
  unfold aConvert at h
  split at h
  · rename_i f n
    change Int at n
    obtain ⟨rfl, hn⟩ := int_val hx
    split at h
    · rename_i h1 h2
      cases h
      have u1 := (hk.Θ _ _ h1).1
      have u2 := (hk.Θ _ _ h2).1
      exact ⟨_, by simp [convert, run_underlying u1, run_underlying u2, Conv.intToInt, wrap_in hn], Post.eff hm (int_rep hn)⟩
    · rename_i h1 h2
      split at h
      · rename_i hU
        cases h
        have u1 := (hk.Θ _ _ h1).1
        have u2 := hk.X.U _ hU
        exact ⟨_, by simp [convert, run_underlying u1, run_underlying u2, Conv.intToInt], Post.eff hm rfl⟩
      · cases h
    · cases h
  · rename_i n
    have hx : vx = .int .u64 n := hx
    subst hx
    split at h
    · rename_i h1 h2
      cases h
      have u1 := hk.X.U _ h1
      have u2 := (hk.Θ _ _ h2).1
      exact ⟨_, by simp [convert, run_underlying u1, run_underlying u2, Conv.intToInt], Post.eff hm (int_rep (wrap_inI n))⟩
    · cases h
  · cases h

theorem aPick_ok (hm : MRel P B G m w w0) {c a b : V} {e : Eff} (h : aPick c a b = some e) (hpre : e.pre) {vc va vb : Value} (hc : ERep P B G m w c vc) (ha : ERep P B G m w a va) (hb : ERep P B G m w b vb) :
    ∃ v, (do pure (if ← asBool vc then va else vb) : Sem Value).run P w = .ok v w ∧ Post P B w0 G m w e v w := by
  unfold aPick at h
  split at h
  · rename_i f c f2 x f3 y
    change Bool at c
    cases h
    obtain rfl := bool_val hc
    obtain rfl := bool_val ha
    obtain rfl := bool_val hb
    refine ⟨.bool (cond c x y), ?_, Post.eff hm bool_rep⟩
    cases c <;> simp [asBool]
  · cases h
    obtain rfl := bool_val hc
    have hp : (_ : Bool) = false := hpre
    exact ⟨vb, by simp [asBool, hp], Post.eff hm hb⟩
  · cases h
    obtain rfl := bool_val hc
    have hp : (_ : Bool) = true := hpre
    exact ⟨va, by simp [asBool, hp], Post.eff hm ha⟩
  · cases h
    obtain rfl := bool_val hc
    have hp : (_ : Bool) = false := hpre
    exact ⟨vb, by simp [asBool, hp], Post.eff hm hb⟩
  · cases h
    obtain rfl := bool_val hc
    have hp : (_ : Bool) = true := hpre
    exact ⟨va, by simp [asBool, hp], Post.eff hm ha⟩
  · cases h

/-! ### Closures -/
theorem o_of_c {t : T} {x : t.den} {S : Nat → Prop} {cs : List Value} (h : (reps P t).c w S x cs) : (reps P t).o w S x (mkV t cs) [] := by
  cases t
  case osl a => exact h.elim
  all_goals exact ⟨rfl, cs, rfl, h⟩

theorem o_keep0 (t : T) {G' : Nat → Gh} {m2 : Mem} {w' : World} (he : Ext B G m w G' m2 w') {f : Bool} {x : t.den} {v : Value} (h : (reps P t).o w (dS B G m f) x v []) : (reps P t).o w' (dS B G' m2 f) x v [] := o_keep t h (he.keep f) (he.sub f)

theorem capD_spec (hk : Cok P cx) : ∀ (l : List V) (vals : List Value) (m m' : Mem) (t : T) (x : t.den) (us : List (Nat × Nat × L)), MRel P B G m w w0 → Sub m' m → l.length = vals.length →
    (∀ (j : Nat) (p : V) (q : Value), l[j]? = some p → vals[j]? = some q → ERep P B G m w p q) → capD m' l = some (⟨t, x⟩, us) →
    MRel P B G (putLoc m us) w w0 ∧ Ext B G m w G (putLoc m us) w ∧ (reps P t).v w (dS B G (putLoc m us) false) x vals []
  | [], vals, m, m', t, x, us, hm, hs, hl, hv, h => by
    cases vals with
    | cons _ _ => simp at hl
    | nil => cases h; exact ⟨hm, Ext.refl, rfl, rfl⟩
  | p :: l, vals, m, m', t, x, us, hm, hs, hl, hv, h => by
    cases vals with
    | nil => simp at hl
    | cons q vals =>
      have hV := hv 0 p q rfl rfl
      unfold capD at h
      have key : ∀ (t1 : T) (x1 : t1.den) (us1 : List (Nat × Nat × L)), MRel P B G (putLoc m us1) w w0 → Ext B G m w G (putLoc m us1) w → (reps P t1).o w (dS B G (putLoc m us1) false) x1 q [] →
          (match capD (putLoc m' us1) l with | some (⟨t', x'⟩, us') => some ((⟨.cons t1 t', (x1, x')⟩ : Σ t : T, t.den), us1 ++ us') | none => none) = some (⟨t, x⟩, us) →
          MRel P B G (putLoc m us) w w0 ∧ Ext B G m w G (putLoc m us) w ∧ (reps P t).v w (dS B G (putLoc m us) false) x (q :: vals) [] := by
        intro t1 x1 us1 r1 r2 r3 h
        split at h
        · rename_i t2 x2 us2 h2
          cases h
          obtain ⟨a1, a2, a3⟩ := capD_spec hk l vals (putLoc m us1) (putLoc m' us1) t2 x2 us2 r1 (hs.put us1) (by simpa using hl) (fun j p q hp hq => (hv (j + 1) p q (by simpa using hp) (by simpa using hq)).ext r2) h2
          rw [putLoc_append]
          exact ⟨a1, r2.trans a2, q, vals, [], [], rfl, rfl, o_keep0 t1 a2 r3, a3⟩
        · cases h
      split at h
      · rename_i t1 x1 us1 h1
        split at h1
        · rename_i f t3 x3
          cases h1
          obtain ⟨cs, rfl, hc⟩ := hV
          exact key t1 x1 [] hm Ext.refl (o_of_c (c_and hc (fun _ => rfl))) h
        · rename_i f t3 x3
          cases h1
          obtain ⟨b, o, cs, rfl, h2, h3, h4, hc⟩ := hV
          exact key (.ref t3) x3 [] hm Ext.refl ⟨rfl, _, rfl, b, o, cs, rfl, dS_and b h2 (fun _ => rfl), h3, h4, c_and hc (fun _ => rfl)⟩ h
        · rename_i k g
          split at h1
          · rename_i g2 f s xs e2
            split at h1
            · rename_i hg
              cases h1
              have e3 := hs _ _ e2
              have hst : stor cx.Γ m' (.sl s) (.own k g) = some (f, xs, [(k, g2, .fz f s xs)]) := by
                unfold stor asD ownX
                simp only [e2, hg, T.beq_self]
                simp
                try rfl
              obtain ⟨r1, r2, cs, e4, r3⟩ := stor_spec hk hm hs hst hV
              refine key (.sl s) xs _ r1 r2 ?_ h
              rw [e4]
              exact o_of_c (c_and r3 (fun _ => rfl))
            · cases h1
          · rename_i g2 f s xs e2
            split at h1
            · rename_i hg
              cases h1
              have e3 := hs _ _ e2
              have hst : stor cx.Γ m' (.sl s) (.own k g) = some (f, xs, []) := by
                unfold stor asD ownX
                simp only [e2, hg, T.beq_self]
                simp
                try rfl
              obtain ⟨r1, r2, cs, e4, r3⟩ := stor_spec hk hm hs hst hV
              refine key (.sl s) xs _ r1 r2 ?_ h
              rw [e4]
              exact o_of_c (c_and r3 (fun _ => rfl))
            · cases h1
          · cases h1
        · rename_i k g
          obtain ⟨g1, l1, hk1, hle, hp1⟩ := hV
          split at h1
          · rename_i g2 f s x0 e2
            split at h1
            · rename_i hg
              cases h1
              have e3 := hs _ _ e2
              rw [e3] at hk1; cases hk1
              obtain ⟨b, o, q1, q2, q3, rfl⟩ := hp1 (Nat.eq_of_beq_eq_true hg)
              rw [off_nil] at q2; cases q2
              obtain ⟨r1, r2⟩ := freezeB hm e3
              obtain ⟨b2, w1, b3, off, ds, e, u1, u2, u3, u4⟩ := r1.loc k _ _ (set1_same ..)
              rw [q1] at w1; cases w1
              cases e
              exact key (.ref s) x0 [(k, g1, .fb f s x0)] r1 r2 ⟨rfl, _, rfl, b, 0, ds, rfl, dS_and b u1 (fun _ => rfl), u2, u3, c_and u4 (fun _ => rfl)⟩ h
            · cases h1
          · rename_i g2 f s x0 e2
            split at h1
            · rename_i hg
              cases h1
              have e3 := hs _ _ e2
              rw [e3] at hk1; cases hk1
              obtain ⟨b, o, q1, q2, q3, rfl⟩ := hp1 (Nat.eq_of_beq_eq_true hg)
              rw [off_nil] at q2; cases q2
              obtain ⟨b2, w1, b3, off, ds, e, u1, u2, u3, u4⟩ := hm.loc k _ _ e3
              rw [q1] at w1; cases w1
              cases e
              exact key (.ref s) x0 [] hm Ext.refl ⟨rfl, _, rfl, b, 0, ds, rfl, dS_and b u1 (fun _ => rfl), u2, u3, c_and u4 (fun _ => rfl)⟩ h
            · cases h1
          · cases h1
        · cases h1
      · cases h

theorem aMakeFunc_ok (hk : Cok P cx) (hm : MRel P B G m w w0) (hs : Sub m' m) {fn : Fn} {first caps : List V} {e : Eff} (h : aMakeFunc fn m' first caps = some e) {vf vals : List Value} (hlf : first.length = vf.length) (hl : caps.length = vals.length)
    (hv : ∀ (j : Nat) (p : V) (q : Value), caps[j]? = some p → vals[j]? = some q → ERep P B G m w p q) (hvf : ∀ (j : Nat) (p : V) (q : Value), first[j]? = some p → vf[j]? = some q → ERep P B G m w p q) :
    ∃ v, (Instr.makeFunc fn vf.toArray vals.toArray).run P w = .ok v w ∧ Post P B w0 G m w e v w := by
  unfold aMakeFunc at h
  split at h
  · rename_i g
    cases vf with
    | cons _ _ => simp at hlf
    | nil =>
      split at h
      · rename_i t x us hc
        cases h
        obtain ⟨a1, a2, a3⟩ := capD_spec hk caps vals m m' t x us hm hs hl hv hc
        exact ⟨.func (.func g) #[] vals.toArray, rfl, G, a1, a2, vals, rfl, a3⟩
      · cases h
  · rename_i g f fs
    split at h
    · cases vals with
      | cons _ _ => simp at hl
      | nil =>
        split at h
        · rename_i t x us hc
          cases h
          obtain ⟨a1, a2, a3⟩ := capD_spec hk (f :: fs) vf m m' t x us hm hs hlf hvf hc
          exact ⟨.func (.func g) vf.toArray #[], rfl, G, a1, a2, vf, rfl, a3⟩
        · cases h
    · cases h
  · cases h

theorem aNilCheck_ok (hs : Sub m' m) {x : V} {e : Eff} (h : aNilCheck m' x = some e) {v : Value} (hv : ERep P B G m w x v) : e = ⟨True, x, []⟩ ∧ ((∃ g caps, v = .func (.func g) #[] caps) ∨ ∃ a, v = .pointer (some a)) := by
  unfold aNilCheck at h
  split at h
  · cases h
    obtain ⟨caps, e, _⟩ := hv
    exact ⟨rfl, .inl ⟨_, _, e⟩⟩
  · split at h
    · rename_i g' l e2
      split at h
      · rename_i hb
        cases h
        rw [Bool.and_eq_true] at hb
        obtain ⟨g2, l2, e3, _, hp⟩ := hv
        have := hs _ _ e2
        rw [e3] at this; cases this
        have hp := hp (Nat.eq_of_beq_eq_true hb.1)
        refine ⟨rfl, .inr ?_⟩
        cases l with
        | box f t x => obtain ⟨b, o, _, _, _, e⟩ := hp; exact ⟨_, e⟩
        | sl f t xs => obtain ⟨b, off, o, n, p', _, _, _, _, _, e⟩ := hp; exact ⟨_, e⟩
        | fz f t xs => simp [L.mut] at hb
        | fb f t x => simp [L.mut] at hb
        | nl f t xss hh hole => obtain ⟨b, off, n, _, _, _, e⟩ := hp; exact ⟨_, e⟩
        | mv => exact hp.elim
        | it A ys i => exact hp.elim
        | itx => exact hp.elim
        | rg fr A ys i => exact hp.elim
      · cases h
    · cases h
  · cases h
    obtain ⟨b, o, cs, e, _⟩ := hv
    exact ⟨rfl, .inr ⟨_, e⟩⟩
  · rename_i k g hh n p
    split at h
    · rename_i r e2
      cases h
      obtain ⟨g2, l2, e3, _, hp⟩ := hv
      unfold innX at e2
      split at e2
      · rename_i g3 f3 s3 xss h3 hole e4
        have := hs _ _ e4
        rw [e3] at this; cases this
        split at e2
        · rename_i hb
          simp only [Bool.and_eq_true] at hb
          obtain ⟨b, off, o, i, p', _, _, _, _, _, _, e⟩ := (hp (Nat.eq_of_beq_eq_true hb.1)).2 (Nat.eq_of_beq_eq_true hb.2.1)
          exact ⟨rfl, .inr ⟨_, e⟩⟩
        · cases e2
      · cases e2
    · cases h
  · cases h

/-! ### len -/
theorem aLen_ok (hk : Cok P cx) (hm : MRel P B G m w w0) (hs : Sub m' m) {tys' : List TypeId} {x : V} {e : Eff} (h : aLen cx tys' m' x = some e) {vx : Value} (hx : ERep P B G m w x vx) (ty : TypeId) :
    ∃ v, (Builtin.len_ tys'.toArray ty #[vx]).run P w = .ok v w ∧ Post P B w0 G m w e v w := by
  unfold aLen at h
  split at h
  · rename_i t0 rest
    split at h
    · rename_i a ht
      obtain ⟨et, h1, h2⟩ := ty_sl (hk.Θ _ _ ht)
      have key : ∀ (ao : Option Addr) (n cap : Nat), vx = .slice ao n cap → n ≤ 140737488355328 → ∀ (n' : Int), n' = n → ∃ v, (Builtin.len_ (t0 :: rest).toArray ty #[vx]).run P w = .ok v w ∧ Post P B w0 G m w ⟨True, .d true .int n', []⟩ v w := by
        rintro ao n cap rfl hn n' rfl
        exact ⟨.int .i64 n, by simp [Builtin.len_, run_underlying h1, goInt], Post.eff hm (int_rep (by unfold inI; omega))⟩
      split at h
      · rename_i f b xs
        cases h
        obtain ⟨cs, rfl, v, rfl, ao, cap, e1, _, e2, _⟩ := hx
        exact key ao _ cap e1 e2 _ rfl
      · rename_i k g
        split at h
        · rename_i f s xs e2
          cases h
          obtain ⟨ao, cap, e1, _, e3, _⟩ := ownX_spec hm hs e2 hx (S := fun _ => True) (fun _ _ _ => trivial) (fun _ _ _ _ _ _ => trivial)
          exact key ao _ cap e1 e3 _ rfl
        · cases h
      · rename_i k g hh n
        split at h
        · rename_i f s xs e2
          cases h
          obtain ⟨xss, hole, _, _, _, _, e5⟩ := innX_spec hm hs e2 hx
          obtain ⟨ao, cap, e1, _, e3, _⟩ := repSl_of_own (R' := fun _ _ => True) (S' := fun _ => True) e5 (fun _ _ _ => trivial) fun _ _ _ => trivial
          exact key ao _ cap e1 e3 _ rfl
        · cases h
      · cases h
        exact key none 0 0 hx (by omega) _ rfl
      · cases h
    · rename_i n a ht
      obtain ⟨et, h1, h2⟩ := ty_arr (hk.Θ _ _ ht)
      split at h
      · rename_i hb
        have hb := Nat.le_of_ble_eq_true hb
        cases h
        exact ⟨.int .i64 n, by simp [Builtin.len_, run_underlying h1, goInt], Post.eff hm (int_rep (by unfold inI; omega))⟩
      · cases h
    · cases h
  · cases h

end

end Go.Tk
