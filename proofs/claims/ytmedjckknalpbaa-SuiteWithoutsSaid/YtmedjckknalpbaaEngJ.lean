/- The engine, part J: slicing, append, copy, min and max do what their abstract twins say. No conditions. -/
import Derived.Test.YtmedjckknalpbaaEngI
set_option linter.unusedSimpArgs false
set_option linter.unusedVariables false
namespace Go.Tk
open Go Go.RowKit

def optRep (P : Program) (B : Bs) (G : Nat → Gh) (m : Mem) (w : World) : Option V → Option Value → Prop
  | none, none => True
  | some x, some v => ERep P B G m w x v
  | _, _ => False

section
variable {P : Program} {B : Bs} {G : Nat → Gh} {m m' : Mem} {w w0 : World} {cx : Cx}

theorem bound_spec {o : Option V} {ov : Option Value} {d n : Int} (h : bound o d = some n) (hr : optRep P B G m w o ov) : (o = none ∧ ov = none ∧ n = d) ∨ (o.isSome = true ∧ ov = some (.int .i64 n)) := by
  unfold bound at h
  split at h
  · cases h
    cases ov with
    | none => exact .inl ⟨rfl, rfl, rfl⟩
    | some v => exact hr.elim
  · rename_i f n'
    cases h
    cases ov with
    | none => exact hr.elim
    | some v => exact .inr ⟨rfl, by rw [(int_val hr).1]⟩
  · cases h

theorem run_sliceBound {n : Int} {y : Nat} (h0 : 0 ≤ n) (h1 : n ≤ y) (c : BoundsCode) : (Instr.sliceBound (.int .i64 n) y c).run P w = .ok n.toNat w := by
  simp [Instr.sliceBound, asIntOf, h0, h1]

theorem run_sliceBounds {len cap : Nat} {lo hi mx : Option Value} {l h : Int} {k : Nat} (hl : (lo = none ∧ l = 0) ∨ lo = some (.int .i64 l)) (hh : (hi = none ∧ h = len) ∨ hi = some (.int .i64 h)) (hk : (mx = none ∧ k = cap) ∨ (mx = some (.int .i64 k) ∧ hi.isSome = true))
    (h0 : 0 ≤ l) (h1 : l ≤ h) (h2 : h ≤ k) (h3 : k ≤ cap) : (Instr.sliceBounds true len cap lo hi mx).run P w = .ok (l.toNat, h.toNat, k) w := by
  have b1 : ∀ c, (Instr.sliceBound (.int .i64 (k : Int)) cap c).run P w = .ok k w := fun c => by rw [run_sliceBound (by omega) (by omega)]; simp
  have b2 : ∀ c, (Instr.sliceBound (.int .i64 h) k c).run P w = .ok h.toNat w := fun c => run_sliceBound (by omega) (by omega) c
  have b3 : ∀ c, (Instr.sliceBound (.int .i64 l) h.toNat c).run P w = .ok l.toNat w := fun c => run_sliceBound (by omega) (by omega) c
  have hn : h.toNat = len → True := fun _ => trivial
  rcases hk with ⟨rfl, rfl⟩ | ⟨rfl, hs⟩
  · rcases hh with ⟨rfl, e⟩ | rfl
    · have e2 : h.toNat = len := by omega
      rcases hl with ⟨rfl, rfl⟩ | rfl
      · simp [Instr.sliceBounds, e2]
      · rw [e2] at b3
        simp [Instr.sliceBounds, b3, e2]
    · rcases hl with ⟨rfl, rfl⟩ | rfl
      · simp [Instr.sliceBounds, b2]
      · simp [Instr.sliceBounds, b2, b3]
  · rcases hh with ⟨rfl, e⟩ | rfl
    · simp at hs
    · rcases hl with ⟨rfl, rfl⟩ | rfl
      · simp [Instr.sliceBounds, b1, b2]
      · simp [Instr.sliceBounds, b1, b2, b3]

theorem run_slice {t e : TypeId} {a : T} (h1 : P.underlying t = some (.slice e)) (h2 : (tys P a).ty e) {ao : Option Addr} {len cap : Nat} {lo hi mx : Option Value} {l h : Int} {k : Nat} (hl : (lo = none ∧ l = 0) ∨ lo = some (.int .i64 l)) (hh : (hi = none ∧ h = len) ∨ hi = some (.int .i64 h)) (hk : (mx = none ∧ k = cap) ∨ (mx = some (.int .i64 k) ∧ hi.isSome = true))
    (h0 : 0 ≤ l) (h3 : l ≤ h) (h4 : h ≤ k) (h5 : k ≤ cap) : (Instr.sliceAt t (.slice ao len cap) lo hi mx).run P w = .ok (.slice (if k = l.toNat then ao else ao.map (·.add (l.toNat * a.csize))) (h.toNat - l.toNat) (k - l.toNat)) w := by
  have hb := run_sliceBounds (P := P) (w := w) hl hh hk h0 h3 h4 h5
  simp [Instr.sliceAt, Instr.slice, run_underlying h1, hb, tys_size h2]

theorem drop_take_len {α : Type} (xs : List α) (l h : Nat) (hh : h ≤ xs.length) : ((xs.take h).drop l).length = h - l := by simp; omega

/-- The bounds of a slice expression: what the values are, from what the abstract values are. -/
theorem aSlice_bounds {lo hi mx : Option V} {lov hiv mxv : Option Value} (hmx : (mx.isNone || hi.isSome) = true) (r1 : optRep P B G m w lo lov) (r2 : optRep P B G m w hi hiv) (r3 : optRep P B G m w mx mxv) {len cap : Nat} {l h c : Int}
    (b1 : bound lo 0 = some l) (b2 : bound hi len = some h) (b3 : bound mx len = some c) (h0 : 0 ≤ l ∧ l ≤ h ∧ h ≤ c ∧ c ≤ len) (hc : len ≤ cap) :
    ∃ k : Nat, ((lov = none ∧ l = 0) ∨ lov = some (.int .i64 l)) ∧ ((hiv = none ∧ h = len) ∨ hiv = some (.int .i64 h)) ∧ ((mxv = none ∧ k = cap) ∨ (mxv = some (.int .i64 k) ∧ hiv.isSome = true)) ∧ h ≤ k ∧ k ≤ cap := by
  have e1 : (lov = none ∧ l = 0) ∨ lov = some (.int .i64 l) := by
    rcases bound_spec b1 r1 with ⟨_, e, e'⟩ | ⟨_, e⟩
    · exact .inl ⟨e, e'⟩
    · exact .inr e
  have e2 : (hiv = none ∧ h = len) ∨ hiv = some (.int .i64 h) := by
    rcases bound_spec b2 r2 with ⟨_, e, e'⟩ | ⟨_, e⟩
    · exact .inl ⟨e, e'⟩
    · exact .inr e
  have hhi : hi.isSome = true → hiv.isSome = true := by
    intro h'
    cases hi with
    | none => simp at h'
    | some x => cases hiv with
      | none => exact r2.elim
      | some v => rfl
  rcases bound_spec b3 r3 with ⟨e, e', e''⟩ | ⟨e, e'⟩
  · exact ⟨cap, e1, e2, .inl ⟨e', rfl⟩, by omega, Nat.le_refl _⟩
  · refine ⟨c.toNat, e1, e2, .inr ⟨by rw [e', Int.toNat_of_nonneg (by omega)], hhi ?_⟩, by omega, by omega⟩
    cases mx with
    | none => simp at e
    | some x => simpa using hmx

/-- A part of a slice that is data. -/
theorem data_slice {t e : TypeId} {b : T} (h1 : P.underlying t = some (.slice e)) (h2 : (tys P b).ty e) {f : Bool} {xs : List b.den} {v : Value} (hsl : repSl ((reps P b).c w (dS B G m f)) w (dS B G m f) xs v)
    {lo hi mx : Option V} {lov hiv mxv : Option Value} (hmx : (mx.isNone || hi.isSome) = true) (r1 : optRep P B G m w lo lov) (r2 : optRep P B G m w hi hiv) (r3 : optRep P B G m w mx mxv) {l h c : Int}
    (b1 : bound lo 0 = some l) (b2 : bound hi xs.length = some h) (b3 : bound mx xs.length = some c) (h0 : 0 ≤ l ∧ l ≤ h ∧ h ≤ c ∧ c ≤ xs.length) :
    ∃ v', (Instr.sliceAt t v lov hiv mxv).run P w = .ok v' w ∧ ERep P B G m w (.d f (.sl b) ((xs.take h.toNat).drop l.toNat)) v' := by
  obtain ⟨ao, cap, rfl, hcap, hlen, hrest⟩ := hsl
  obtain ⟨k, e1, e2, e3, e4, e5⟩ := aSlice_bounds hmx r1 r2 r3 b1 b2 b3 h0 hcap
  have hr := run_slice (w := w) h1 h2 (ao := ao) e1 e2 e3 h0.1 h0.2.1 e4 e5
  have hl := drop_take_len xs l.toNat h.toNat (by omega)
  refine ⟨_, hr, [_], rfl, _, rfl, _, k - l.toNat, by rw [hl], by rw [hl]; omega, by rw [hl]; omega, ?_⟩
  by_cases hz : h.toNat ≤ l.toNat
  · left
    exact List.eq_nil_of_length_eq_zero (by rw [hl]; omega)
  · right
    rcases hrest with rfl | ⟨bb, off, cs, rfl, a1, a2, a3, a4⟩
    · simp at h0; omega
    · rw [if_neg (by omega)]
      refine ⟨bb, off + l.toNat * b.csize, _, by simp [addr_add], a1, a2, cellsAt_sub a3 (l.toNat * b.csize) ((h.toNat - l.toNat) * b.csize), ?_⟩
      have hn : ∀ (x : b.den) cs, (reps P b).c w (dS B G m f) x cs → cs.length = b.csize := fun x cs h => c_len b h
      have s1 : xs = xs.take h.toNat ++ xs.drop h.toNat := (List.take_append_drop _ _).symm
      rw [s1] at a4
      obtain ⟨p1, _⟩ := repL_split hn _ _ _ a4
      have s2 : xs.take h.toNat = (xs.take h.toNat).take l.toNat ++ (xs.take h.toNat).drop l.toNat := (List.take_append_drop _ _).symm
      have l1 : (xs.take h.toNat).length = h.toNat := by simp; omega
      have l2 : ((xs.take h.toNat).take l.toNat).length = l.toNat := by simp; omega
      rw [l1, s2] at p1
      obtain ⟨_, p2⟩ := repL_split hn _ _ _ p1
      rw [l2] at p2
      have e : h.toNat * b.csize - l.toNat * b.csize = (h.toNat - l.toNat) * b.csize := (Nat.sub_mul _ _ _).symm
      have e5 : (cs.take (h.toNat * b.csize)).drop (l.toNat * b.csize) = (cs.drop (l.toNat * b.csize)).take ((h.toNat - l.toNat) * b.csize) := by rw [List.drop_take, e]
      rw [e5] at p2
      exact p2

theorem repOwn_slice {α : Type} {R : α → List Value → Prop} {size : Nat} {S : Nat → Prop} (hn : ∀ x cs, R x cs → cs.length = size) {xs : List α} {ao : Option Addr} {len cap : Nat} {ob : Option (Nat × Nat)} (hown : repOwn R size w S xs (.slice ao len cap) ob)
    {l h : Int} {k : Nat} (h0 : 0 ≤ l) (h1 : l ≤ h) (h2 : h ≤ xs.length) (h3 : h ≤ k) (h4 : k ≤ cap) :
    ∃ ob', repOwn R size w S ((xs.take h.toNat).drop l.toNat) (.slice (if k = l.toNat then ao else ao.map (·.add (l.toNat * size))) (h.toNat - l.toNat) (k - l.toNat)) ob' ∧ ∀ b o, ob' = some (b, o) → ∃ o', ob = some (b, o') := by
  rcases hown with ⟨e, rfl, rfl⟩ | ⟨b, off, cp, cur, e, rfl, e2, a1, a2, a3, a4, a5, a6⟩
  · cases e
    have : l = 0 := by simp at h2; omega
    have : h = 0 := by simp at h2; omega
    subst l; subst h
    have hk : k = 0 := by omega
    subst hk
    exact ⟨none, .inl ⟨by simp, by simp, rfl⟩, fun b o e => by cases e⟩
  · cases e2
    have hl := drop_take_len xs l.toNat h.toNat (by omega)
    have hcell : repL R ((xs.take h.toNat).drop l.toNat) ((cur.toList.drop (off + l.toNat * size)).take ((h.toNat - l.toNat) * size)) := by
      have s1 : xs = xs.take h.toNat ++ xs.drop h.toNat := (List.take_append_drop _ _).symm
      rw [s1] at a6
      obtain ⟨p1, _⟩ := repL_split hn _ _ _ a6
      have s2 : xs.take h.toNat = (xs.take h.toNat).take l.toNat ++ (xs.take h.toNat).drop l.toNat := (List.take_append_drop _ _).symm
      have l1 : (xs.take h.toNat).length = h.toNat := by simp; omega
      have l2 : ((xs.take h.toNat).take l.toNat).length = l.toNat := by simp; omega
      have l3 : (xs.take h.toNat ++ xs.drop h.toNat).length = xs.length := by rw [← s1]
      rw [l1, l3, s2] at p1
      obtain ⟨_, p2⟩ := repL_split hn _ _ _ p1
      rw [l2] at p2
      have hle : h.toNat * size ≤ xs.length * size := Nat.mul_le_mul_right _ (by omega)
      have e : h.toNat * size - l.toNat * size = (h.toNat - l.toNat) * size := (Nat.sub_mul _ _ _).symm
      have e5 : ((((cur.toList.drop off).take (xs.length * size)).take (h.toNat * size)).drop (l.toNat * size)) = (cur.toList.drop (off + l.toNat * size)).take ((h.toNat - l.toNat) * size) := by
        rw [List.take_take, Nat.min_eq_left hle, List.drop_take, List.drop_drop, e]
      rw [e5] at p2
      exact p2
    by_cases hk : k = l.toNat
    · rw [if_pos hk]
      have hz : (xs.take h.toNat).drop l.toNat = [] := List.eq_nil_of_length_eq_zero (by rw [hl]; omega)
      refine ⟨some (b, off), .inr ⟨b, off, k - l.toNat, cur, e, rfl, by rw [hl], a1, a2, by rw [hl]; omega, by rw [hl]; omega, ?_, ?_⟩, fun b' o e => by cases e; exact ⟨_, rfl⟩⟩
      · rw [hk, Nat.sub_self, Nat.zero_mul]; omega
      · rw [hz]; simp [repL]
    · rw [if_neg hk]
      refine ⟨some (b, off + l.toNat * size), .inr ⟨b, off + l.toNat * size, k - l.toNat, cur, e, rfl, by rw [hl]; simp [addr_add], a1, a2, by rw [hl]; omega, by rw [hl]; omega, ?_, ?_⟩, fun b' o e => by cases e; exact ⟨_, rfl⟩⟩
      · have : l.toNat * size + (k - l.toNat) * size = k * size := by rw [← Nat.add_mul]; congr 1; omega
        have : k * size ≤ cap * size := Nat.mul_le_mul_right _ (by omega)
        omega
      · rw [hl]; exact hcell

/-- An own slice becomes another one, over its own block or a new one. -/
theorem own_post (hm : MRel P B G m w w0) {k g : Nat} {f f' : Bool} {t : T} {xs xs' : List t.den} (hk : m k = some (g, .sl f t xs)) {w' : World} {v : Value} {ob : Option (Nat × Nat)} (os : w'.os = w.os) (tape : w'.tape = w.tape) (output : w'.output = w.output) (size : w.heap.size ≤ w'.heap.size)
    (hblock : ∀ i, i < w.heap.size → (∀ o, (G k).blk ≠ some (i, o)) → w'.heap[i]? = w.heap[i]?) (hob : ∀ b o, ob = some (b, o) → w.heap.size ≤ b ∨ ∃ o', (G k).blk = some (b, o'))
    (hown : repOwn ((reps P t).c w (dS B G m f')) t.csize w' (fun _ => True) xs' v ob) {p : Prop} : Post P B w0 G m w ⟨p, .own k (g + 1), [(k, g + 1, .sl f' t xs')]⟩ v w' := by
  have hch : Chg B G m w k (g + 1) (gh v ob) (.sl f' t xs') w' := by
    refine ⟨os, tape, output, size, fun i hi hne => hblock i hi fun o e => hne g _ hk rfl ⟨o, e⟩, fun _ b ⟨o, e⟩ => ?_, fun g0 l0 e => ?_, fun b o e hn => ?_⟩
    · rcases hob b o e with h | ⟨o', h⟩
      · exact .inl h
      · exact .inr ⟨g, _, hk, rfl, o', h⟩
    · rw [hk] at e; cases e
      exact ⟨by omega, fun h => by omega⟩
    · refine (hblock b (Array.getElem?_eq_some_iff.1 e).1 fun o' h => ?_).trans e
      rcases (hm.loc k _ _ hk).own_isC rfl (b := b) ⟨o', h⟩ with h | ⟨_, _, _, h⟩ | h
      · exact hn h
      · cases h
      · cases h
  have he := hch.ext hm
  refine ⟨_, hch.rel hm ?_, he, ⟨_, _, set1_same .., Nat.le_refl _, fun _ => by rw [setG_same]; rfl⟩⟩
  unfold LRep
  rw [setG_same]
  rcases hown with h | ⟨b, off, cap, cur, e, h1, h2, h3, h4, h5, h6, h7, h8⟩
  · exact .inl h
  · refine .inr ⟨b, off, cap, cur, e, h1, h2, ?_, h4, h5, h6, h7, repL_mono (fun _ _ h => he.c h) _ _ h8⟩
    rcases hob b off h1 with h | ⟨o', h⟩
    · exact Nat.le_trans hm.base h
    · exact ((hm.loc k _ _ hk).blk_lt rfl ⟨o', h⟩).2

theorem aSlice_ok (hk : Cok P cx) (hm : MRel P B G m w w0) (hs : Sub m' m) {t : TypeId} {sb : Bool} {x : V} {lo hi mx : Option V} {e : Eff} (h : aSlice cx t sb m' x lo hi mx = some e) (hpre : e.pre) {vx : Value} {lov hiv mxv : Option Value} (hx : ERep P B G m w x vx)
    (r1 : optRep P B G m w lo lov) (r2 : optRep P B G m w hi hiv) (r3 : optRep P B G m w mx mxv) :
    ∃ v, (Instr.sliceAt t vx lov hiv mxv).run P w = .ok v w ∧ Post P B w0 G m w e v w := by
  unfold aSlice at h
  split at h
  · cases h
  · rename_i hmx
    split at h
    · rename_i a ht
      obtain ⟨et, h1, h2⟩ := ty_sl (hk.Θ _ _ ht)
      split at h
      · rename_i f b xs
        split at h
        · rename_i l hh c hb b1 b2 b3
          cases h
          obtain rfl := T.beq_eq hb
          obtain ⟨cs, rfl, v, rfl, hsl⟩ := hx
          obtain ⟨v', q1, q2⟩ := data_slice h1 h2 hsl hmx r1 r2 r3 b1 b2 b3 hpre
          exact ⟨v', q1, Post.eff hm q2⟩
        · cases h
      · rename_i k g
        obtain ⟨g1, l1, hkk, hle, hx⟩ := hx
        split at h
        · rename_i g2 f b xs e2
          have := hs _ _ e2
          rw [hkk] at this; cases this
          split at h
          · rename_i l hh c hb b1 b2 b3
            rw [Bool.and_eq_true] at hb
            obtain rfl := T.beq_eq hb.2
            have hg := Nat.eq_of_beq_eq_true hb.1
            have hv := hx hg
            have hl := hm.loc k _ _ hkk
            unfold LRep at hl
            have hshape : ∃ ao cap, (G k).hdr = .slice ao xs.length cap ∧ xs.length ≤ cap := by
              rcases hl with ⟨e, rfl, _⟩ | ⟨_, _, cap, _, _, _, e, _, _, e3, _⟩
              · exact ⟨none, 0, e, Nat.le_refl _⟩
              · exact ⟨_, cap, e, e3⟩
            obtain ⟨ao, cap, e3, e4⟩ := hshape
            rw [e3] at hl
            have hv : vx = .slice ao xs.length cap := hv.trans e3
            subst hv
            have hp : 0 ≤ l ∧ l ≤ hh ∧ hh ≤ c ∧ c ≤ (xs.length : Int) := by
              split at h <;> cases h <;> exact hpre
            obtain ⟨kk, q1, q2, q3, q4, q5⟩ := aSlice_bounds hmx r1 r2 r3 b1 b2 b3 hp e4
            have hr := run_slice (w := w) h1 h2 (ao := ao) q1 q2 q3 hp.1 hp.2.1 q4 q5
            split at h
            · rename_i hsb
              cases h
              have hkc : kk = cap := by
                rcases q3 with ⟨_, e⟩ | ⟨e, _⟩
                · exact e
                · rw [Bool.and_eq_true, Option.isNone_iff_eq_none] at hsb
                  rw [hsb.2] at r3
                  rw [e] at r3
                  exact r3.elim
              subst hkc
              exact ⟨_, hr, Post.eff hm ⟨_, _, hkk, Nat.le_of_eq hg, fun _ => ⟨by omega, by omega, ao, kk, e3, e4, rfl⟩⟩⟩
            cases h
            obtain ⟨ob', c1, c2⟩ := repOwn_slice (fun x cs h => c_len b h) hl hp.1 hp.2.1 (by omega) q4 q5
            refine ⟨_, hr, own_post hm hkk rfl rfl rfl (Nat.le_refl _) (fun _ _ _ => rfl) (fun b o e => .inr (c2 b o e)) ?_⟩
            rcases c1 with c1 | ⟨b', off, cp, cur, ee, d1, d2, _, d4, d5, d6, d7, d8⟩
            · exact .inl c1
            · exact .inr ⟨b', off, cp, cur, ee, d1, d2, trivial, d4, d5, d6, d7, d8⟩
          · cases h
        · rename_i g2 f b xs e2
          have := hs _ _ e2
          rw [hkk] at this; cases this
          split at h
          · rename_i l hh c hb b1 b2 b3
            rw [Bool.and_eq_true] at hb
            cases h
            obtain rfl := T.beq_eq hb.2
            have hv := hx (Nat.eq_of_beq_eq_true hb.1)
            obtain ⟨v, e3, hsl⟩ := hm.loc k _ _ hkk
            cases e3
            obtain ⟨v', q1, q2⟩ := data_slice h1 h2 hsl hmx r1 r2 r3 b1 b2 b3 hpre
            exact ⟨v', by rw [hv]; exact q1, Post.eff hm q2⟩
          · cases h
        · cases h
      · cases h
    · rename_i l a ht
      obtain ⟨et, h1, h2⟩ := ty_arr (hk.Θ _ _ ht)
      split at h
      · rename_i f l' b xs
        split at h
        · rename_i hb
          simp only [Bool.and_eq_true] at hb
          cases h
          obtain rfl := Nat.eq_of_beq_eq_true hb.1.1
          obtain rfl := T.beq_eq hb.1.2
          have hle := Nat.le_of_ble_eq_true hb.2
          obtain ⟨bb, o, cs, rfl, q1, q2, q3, q4, q5⟩ := hx
          have n1 : lov = none := by cases lov with
            | none => rfl
            | some v => exact r1.elim
          have n2 : hiv = none := by cases hiv with
            | none => rfl
            | some v => exact r2.elim
          have n3 : mxv = none := by cases mxv with
            | none => rfl
            | some v => exact r3.elim
          subst n1; subst n2; subst n3
          have q4 : List.length xs = l' := q4
          refine ⟨.slice (some ⟨bb, o, none⟩) l' l', ?_, Post.eff hm ⟨[.slice (some ⟨bb, o, none⟩) l' l'], rfl, _, rfl, some ⟨bb, o, none⟩, l', by rw [q4], by omega, by omega, .inr ⟨bb, o, cs, rfl, q1, q2, q3, q5⟩⟩⟩
          simp [Instr.sliceAt, run_underlying h1, Instr.sureAddr, Instr.sliceBounds, tys_size h2, addr_add]
        · cases h
      · rename_i k g
        split at h
        · rename_i g2 f l' b xs e2
          split at h
          · rename_i hb
            simp only [Bool.and_eq_true] at hb
            cases h
            obtain rfl := Nat.eq_of_beq_eq_true hb.2.1
            obtain ⟨g1, l1, hkk, hle, hx⟩ := hx
            have := hs _ _ e2
            rw [hkk] at this; cases this
            have hg := Nat.eq_of_beq_eq_true hb.1
            obtain ⟨b', o, q1, q2, q3, q4⟩ := hx hg
            obtain ⟨bb, cur, ee, a1, a2, a3, a4, a5⟩ := hm.loc k _ _ hkk
            rw [a1] at q1; cases q1
            rw [off_nil] at q2; cases q2
            have n1 : lov = none := by cases lov with
              | none => rfl
              | some v => exact r1.elim
            have n2 : hiv = none := by cases hiv with
              | none => rfl
              | some v => exact r2.elim
            have n3 : mxv = none := by cases mxv with
              | none => rfl
              | some v => exact r3.elim
            subst n1; subst n2; subst n3
            refine ⟨.slice (some ⟨b', 0, none⟩) l' l', ?_, Post.eff hm ⟨_, _, hkk, hle, fun _ => by simp only [hdrOf, a2]⟩⟩
            rw [q4]
            simp [Instr.sliceAt, run_underlying h1, Instr.sureAddr, Instr.sliceBounds, tys_size h2, addr_add]
          · cases h
        · cases h
      · rename_i k g p _
        split at h
        · rename_i f l' b xs g' f2 s x e1 e2
          split at h
          · rename_i hb
            simp only [Bool.and_eq_true] at hb
            cases h
            obtain rfl := Nat.eq_of_beq_eq_true hb.2.1.1
            obtain rfl := T.beq_eq hb.2.1.2
            have hle := Nat.le_of_ble_eq_true hb.2.2
            have e3 := hs _ _ e2
            obtain ⟨bb, o, cs, rfl, q3, q5⟩ := mget_spec hm hs e1 hx
            obtain ⟨g1, l1, hkk, _, hx'⟩ := hx
            rw [e3] at hkk; cases hkk
            obtain ⟨b', o', w1, w2, w3, w4⟩ := hx' (Nat.eq_of_beq_eq_true hb.1)
            cases w4
            obtain ⟨z1, z2⟩ := freezeB hm e3
            obtain ⟨b2, y1, b3, off, ds, ez, u1, u2, u3, u4⟩ := z1.loc k _ _ (set1_same ..)
            rw [w1] at y1; cases y1
            cases ez
            have n1 : lov = none := by cases lov with
              | none => rfl
              | some v => exact r1.elim
            have n2 : hiv = none := by cases hiv with
              | none => rfl
              | some v => exact r2.elim
            have n3 : mxv = none := by cases mxv with
              | none => rfl
              | some v => exact r3.elim
            subst n1; subst n2; subst n3
            have q6 := z2.c q5
            have q4 : List.length xs = l' := q6.1
            have q7 : repL ((reps P b).c w (dS B G (set1 m k g' (.fb f2 s x)) (f && f2))) xs cs := repL_mono (fun _ _ h => c_and h (fun e => by rw [e]; rfl)) _ _ q6.2
            refine ⟨.slice (some ⟨bb, o, none⟩) l' l', ?_, G, z1, z2, [.slice (some ⟨bb, o, none⟩) l' l'], rfl, _, rfl, some ⟨bb, o, none⟩, l', by rw [q4], by omega, by omega, .inr ⟨bb, o, cs, rfl, dS_and bb u1 (fun e => by rw [e]; cases f <;> rfl), u2, q3, q7⟩⟩
            simp [Instr.sliceAt, run_underlying h1, Instr.sureAddr, Instr.sliceBounds, tys_size h2, addr_add]
          · cases h
        · cases h
      · cases h
    · cases h

/-! ### append -/
theorem elem_info {t : T} {i : TypeId} (h : (tys P t).ty i) (hz : t.hasZero = true) : ∃ fi z, P.info? i = some fi ∧ fi.zero = some z ∧ fi.size = t.csize ∧ fi.bytes ≤ 16384 ∧ z.cells.size = t.csize := by
  obtain ⟨fi, h1, h2, h3, h4⟩ := tys_info h
  obtain ⟨z, h5, h6⟩ := h4 hz
  refine ⟨fi, z, h1, h5, h2, h3, ?_⟩
  rw [h6, zero_cells P default hz]
  have hl : (zeroCs t).length = t.csize := c_len (P := P) (w := default) (S := fun _ => True) t (zeroCs_c hz)
  simpa using hl

theorem Below.drew_alloc (w : World) (o : Obj) : Below w.heap.size w (w.drew.alloc o) := ((Below.refl _ _).drew).alloc (Nat.le_refl _) o

theorem splice_tail (l cy : List Value) (A n : Nat) (hA : A ≤ l.length) (h : n ≤ l.length - A) : ((l.take (A + n) ++ cy ++ l.drop (A + n + cy.length)).drop A).take (n + cy.length) = (l.drop A).take n ++ cy := by
  have e1 : l.take (A + n) ++ cy ++ l.drop (A + n + cy.length) = l.take A ++ (((l.drop A).take n ++ cy) ++ l.drop (A + n + cy.length)) := by
    rw [List.take_add]; simp only [List.append_assoc]
  rw [e1, List.drop_left' (by simp; omega), List.take_left' (by simp; omega)]

/-- What append gives: the slice's own row, longer; or a new one. -/
theorem run_append {t e ty : TypeId} {a : T} (h1 : P.underlying t = some (.slice e)) (h2 : (tys P a).ty e) (hz : a.hasZero = true) {R : a.den → List Value → Prop} (hn : ∀ x cs, R x cs → cs.length = a.csize ∧ ∀ v ∈ cs, v.oneCell' = true) {S : Nat → Prop} {xs ys : List a.den} {v vy : Value} {ob : Option (Nat × Nat)}
    (hx : repOwn R a.csize w S xs v ob) (hy : repSl R w (fun _ => True) ys vy) (hlen : xs.length + ys.length ≤ 4294967296) :
    ∃ v' w' ob', (Builtin.append_ #[t, t] ty #[v, vy]).run P w = .ok v' w' ∧ repOwn R a.csize w' (fun _ => True) (xs ++ ys) v' ob' ∧ w'.os = w.os ∧ w'.tape = w.tape ∧ w'.output = w.output ∧ w.heap.size ≤ w'.heap.size ∧
      (∀ i, i < w.heap.size → (∀ o, ob ≠ some (i, o)) → w'.heap[i]? = w.heap[i]?) ∧ (∀ b o, ob' = some (b, o) → w.heap.size ≤ b ∨ ∃ o', ob = some (b, o')) := by
  obtain ⟨fi, z, i1, i2, i3, i4, i5⟩ := elem_info h2 hz
  have hn1 : ∀ x cs, R x cs → cs.length = a.csize := fun x cs h => (hn x cs h).1
  obtain ⟨ao, cap2, rfl, hcap2, hl2, hy⟩ := hy
  have hby : ∀ n, n ≤ 4294967296 → n * fi.bytes ≤ 140737488355328 := fun n h => by
    have : n * fi.bytes ≤ 4294967296 * 16384 := Nat.mul_le_mul h i4
    omega
  by_cases hy0 : ys = []
  · subst hy0
    have hf : (Builtin.firstCells fi.size 0 (.slice ao 0 cap2)).run P w = .ok #[] w := by
      cases ao with
      | none => simp [Builtin.firstCells]
      | some a => simp [Builtin.firstCells, loadCells, loadCellsFrom]
    rw [List.append_nil]
    rcases hx with ⟨rfl, rfl, rfl⟩ | ⟨b, off, cp, cur, ee, rfl, rfl, c1, c2, c3, c4, c5, c6⟩
    · refine ⟨.slice none 0 0, w, none, ?_, .inl ⟨rfl, rfl, rfl⟩, rfl, rfl, rfl, Nat.le_refl _, fun _ _ _ => rfl, fun b o e => by cases e⟩
      simp [Builtin.append_, run_underlying h1, sizeOf, typeInfo, i1, Builtin.lenOf, hf]
    · refine ⟨.slice (some ⟨b, off, none⟩) xs.length cp, w, some (b, off), ?_, .inr ⟨b, off, cp, cur, ee, rfl, rfl, trivial, c2, c3, c4, c5, c6⟩, rfl, rfl, rfl, Nat.le_refl _, fun _ _ _ => rfl, fun b' o e => by cases e; exact .inr ⟨_, rfl⟩⟩
      simp [Builtin.append_, run_underlying h1, sizeOf, typeInfo, i1, Builtin.lenOf, hf, c3, storeCells]
  · rcases hy with hy | ⟨b2, off2, cs2, rfl, _, hb2, d1, d2⟩
    · exact absurd hy hy0
    have hlc := repL_len hn1 _ _ d2
    have hnews : ∀ j u, cs2[j]? = some u → w.cell? ((⟨b2, off2, none⟩ : Addr).add j) = some u := fun j u h => by rw [addr_add]; exact d1 j u h
    have hone : ∀ u ∈ cs2, u.oneCell' = true := by
      clear hlc hnews d1
      clear hl2 hcap2 hlen
      clear hy0
      induction ys generalizing cs2 with
      | nil => intro u hu; simp [repL] at d2; simp [d2] at hu
      | cons y ys ih =>
        obtain ⟨p1, p2, e, q1, q2⟩ := d2
        intro u hu
        rw [e] at hu
        rcases List.mem_append.1 hu with hu | hu
        · exact (hn y p1 q1).2 u hu
        · exact ih p2 q2 u hu
    have hpos : 0 < ys.length := List.length_pos_iff.2 hy0
    have newrow : ∀ (olds : List Value) (hR : repL R xs olds) (old : Nat), let need := xs.length + ys.length
        let cells := olds.toArray ++ cs2.toArray ++ Builtin.zeroCells z.cells (grownCap w need old e - need)
        repOwn R a.csize (w.drew.alloc (.cells cells e)) (fun _ => True) (xs ++ ys) (.slice (some ⟨w.heap.size, 0, none⟩) need (grownCap w need old e)) (some (w.heap.size, 0)) := by
      intro olds hR old need cells
      have hge := grownCap_ge w need old e
      have hgl := grownCap_le_maxLen w need old e (by unfold maxLen; simp only [need]; omega)
      unfold maxLen at hgl
      have hlo := repL_len hn1 _ _ hR
      refine .inr ⟨w.heap.size, 0, grownCap w need old e, cells, e, rfl, by simp [need], trivial, heap_alloc_new w.drew _, by simp [need] at hge ⊢; exact hge, ⟨by simp; omega, by simp only [need] at hgl; omega⟩, ?_, ?_⟩
      · simp only [cells, Array.size_append, List.size_toArray, size_zeroCells, i5, hlo, hlc, Nat.zero_add, ← Nat.add_mul]
        apply Nat.mul_le_mul_right
        show _ ≤ xs.length + ys.length + _
        omega
      · have e1 : cells.toList = (olds ++ cs2) ++ (Builtin.zeroCells z.cells (grownCap w need old e - need)).toList := by simp [cells]
        have e2 : (xs ++ ys).length * a.csize = (olds ++ cs2).length := by rw [List.length_append, List.length_append, hlo, hlc, Nat.add_mul]
        rw [List.drop_zero, e1, e2, List.take_left']
        · exact repL_append _ _ _ _ hR d2
        · rfl
    rcases hx with ⟨rfl, rfl, rfl⟩ | ⟨b, off, cp, cur, ee, rfl, rfl, c1, c2, c3, c4, c5, c6⟩
    · have hlen' : ys.length ≤ 4294967296 := by simpa using hlen
      have hr := run_append_nil (P := P) w t ty e fi z h1 i1 i2 ⟨b2, off2, none⟩ ys.length cap2 cs2 (by rw [i3]; exact hlc) hnews hpos (by omega) (by have := hby ys.length hlen'; omega)
      have hnr := newrow [] rfl 0
      simp only [List.length_nil, Nat.zero_add, List.nil_append] at hnr ⊢
      refine ⟨_, _, some (w.heap.size, 0), hr, ?_, rfl, rfl, rfl, by simp, fun i hi _ => Below.heap_alloc w.drew _ i hi, fun b o e => by cases e; exact .inl (Nat.le_refl _)⟩
      have e3 : (([] : List Value).toArray ++ cs2.toArray ++ Builtin.zeroCells z.cells (grownCap w ys.length 0 e - ys.length)) = cs2.toArray ++ Builtin.zeroCells z.cells (grownCap w ys.length 0 e - ys.length) := by simp
      rw [e3] at hnr
      exact hnr
    · by_cases hroom : xs.length + ys.length ≤ cp
      · have hcs : (xs.length + ys.length) * a.csize ≤ cp * a.csize := Nat.mul_le_mul_right _ hroom
        rw [Nat.add_mul] at hcs
        have hf := run_firstCells_some (P := P) w fi.size ys.length ⟨b2, off2, none⟩ ys.length cap2 cs2 (by rw [i3]; exact hlc) hnews
        have hst := run_storeCells_at P b (off + xs.length * a.csize) ee cs2 0 cur w c2 (by omega) hone
        simp only [Nat.add_zero] at hst
        rw [i3] at hf
        refine ⟨.slice (some ⟨b, off, none⟩) (xs.length + ys.length) cp, w.setRow b (cur.toList.take (off + xs.length * a.csize) ++ cs2 ++ cur.toList.drop (off + xs.length * a.csize + cs2.length)).toArray, some (b, off), ?_, .inr ⟨b, off, cp, _, ee, rfl, by rw [List.length_append], trivial, setRow_heap w b cur _ ee _ c2, by rw [List.length_append]; exact hroom, by rw [List.length_append]; omega, ?_, ?_⟩, rfl, rfl, rfl, by simp, fun i hi hne => setRow_other w b i _ (fun e => hne off (by rw [e])), fun b' o e => by cases e; exact .inr ⟨_, rfl⟩⟩
        · simp [Builtin.append_, run_underlying h1, sizeOf, typeInfo, i1, Builtin.lenOf, hroom, hf, addr_add, i3, hst]
        · simp only [List.size_toArray, List.length_append, List.length_take, List.length_drop, Array.length_toList]; omega
        · have hlo := repL_len hn1 _ _ c6
          rw [List.toList_toArray, List.length_append, Nat.add_mul, ← hlc]
          have e4 : ((cur.toList.take (off + xs.length * a.csize) ++ cs2 ++ cur.toList.drop (off + xs.length * a.csize + cs2.length)).drop off).take (xs.length * a.csize + cs2.length) = (cur.toList.drop off).take (xs.length * a.csize) ++ cs2 := by
            exact splice_tail _ _ _ _ (by rw [Array.length_toList]; omega) (by rw [List.length_take, List.length_drop] at hlo; omega)
          rw [e4]
          exact repL_append _ _ _ _ c6 d2
      · have hlo := repL_len hn1 _ _ c6
        have holds : ∀ j u, ((cur.toList.drop off).take (xs.length * a.csize))[j]? = some u → w.cell? ((⟨b, off, none⟩ : Addr).add j) = some u := fun j u h => by rw [addr_add]; exact cellsAt_cur c2 off _ j u h
        have hr := run_append_grow (P := P) w t ty e fi z h1 i1 i2 ⟨b, off, none⟩ xs.length cp _ (by rw [i3]; exact hlo) holds ⟨b2, off2, none⟩ ys.length cap2 cs2 (by rw [i3]; exact hlc) hnews (by omega) (by omega) (growslice_fits (by omega) (hby _ hlen))
        refine ⟨_, _, some (w.heap.size, 0), hr, newrow _ c6 cp, rfl, rfl, rfl, by simp, fun i hi _ => Below.heap_alloc w.drew _ i hi, fun b o e => by cases e; exact .inl (Nat.le_refl _)⟩

end

end Go.Tk
