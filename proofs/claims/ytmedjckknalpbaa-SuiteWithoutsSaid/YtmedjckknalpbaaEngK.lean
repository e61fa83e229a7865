/- The engine, part K: append, copy, min, max, and calls do what their abstract twins say. No conditions. -/
import Derived.Test.YtmedjckknalpbaaEngJ
set_option linter.unusedSimpArgs false
set_option linter.unusedVariables false
namespace Go.Tk
open Go Go.RowKit

section
variable {P : Program} {B : Bs} {G : Nat → Gh} {m m' : Mem} {w w0 : World} {cx : Cx}

theorem repSl_any {α : Type} {R R' : α → List Value → Prop} {S : Nat → Prop} {xs : List α} {v : Value} (h : repSl R w S xs v) (hR : ∀ x cs, R x cs → R' x cs) : repSl R' w (fun _ => True) xs v := h.keep (Keep.refl S w) (fun _ _ _ => trivial) hR

/-- A slice seen as data: its elements lie where they may be kept. -/
theorem asD_sl (hk : Cok P cx) (hm : MRel P B G m w w0) (hs : Sub m' m) {a : T} {V : V} {f : Bool} {xs : List a.den} (h : asDs cx.Γ m' (.sl a) V = some (f, xs)) {v : Value} (hv : ERep P B G m w V v) : repSl ((reps P a).c w (dS B G m f)) w (fun _ => True) xs v := by
  unfold asDs at h
  cases V with
  | own k g =>
    simp only at h
    have hnl : isNl m' k = false := by
      cases e : isNl m' k
      · rfl
      · rw [e] at h; cases h
    rw [hnl] at h
    simp only at h
    unfold asD at h
    simp only at h
    split at h
    · rename_i f' s ys e
      split at h
      · rename_i hb
        cases h
        obtain rfl := T.beq_eq hb
        obtain ⟨g', l, hkk, hle, hv⟩ := hv
        unfold ownX at e
        split at e
        · rename_i g2 f2 s2 xs2 e2
          split at e <;> try cases e
          rename_i hg
          have := hs _ _ e2
          rw [hkk] at this; cases this
          rw [hv (Nat.eq_of_beq_eq_true hg)]
          exact repSl_of_own (hm.loc k _ _ hkk) (fun _ _ _ => trivial) (fun _ _ h => h)
        · rename_i g2 f2 s2 xs2 e2
          split at e <;> try cases e
          rename_i hg
          have := hs _ _ e2
          rw [hkk] at this; cases this
          rw [hv (Nat.eq_of_beq_eq_true hg)]
          obtain ⟨v', e', hr⟩ := hm.loc k _ _ hkk
          cases e'
          exact repSl_any hr (fun _ _ h => h)
        · rename_i g2 f2 n s2 xs2 e2
          split at e <;> try cases e
          rename_i hg
          rw [Bool.and_eq_true] at hg
          have := hs _ _ e2
          rw [hkk] at this; cases this
          rw [hv (Nat.eq_of_beq_eq_true hg.1)]
          obtain ⟨b, cur, e, a1, a2, a3, a4, a5, a6⟩ := hm.loc k _ _ hkk
          have hle := Nat.le_of_ble_eq_true hg.2
          change repSl _ w _ ys _
          have a5 : List.length ys = n := a5
          refine ⟨some ⟨b, 0, none⟩, n, by simp only [hdrOf, a2]; rw [a5], by omega, by omega, .inr ⟨b, 0, cur.toList, rfl, trivial, (Array.getElem?_eq_some_iff.1 a4).1, ?_, a6⟩⟩
          intro j v hv
          rw [cell_of_row w b (0 + j) cur e (0, 0) a4]
          simpa using hv
        · rename_i g2 f2 s2 xss2 h2 e2
          unfold isNl at hnl
          rw [e2] at hnl
          cases hnl
        · cases e
      · cases h
    · cases h
  | inn k g hh n =>
    simp only at h
    unfold asD at h
    simp only at h
    split at h
    · rename_i f' s ys e
      split at h
      · rename_i hb
        cases h
        obtain rfl := T.beq_eq hb
        obtain ⟨xss, hole, _, _, _, _, e5⟩ := innX_spec hm hs e hv
        exact repSl_of_own e5 (fun _ _ _ => trivial) fun _ _ h => h
      · cases h
    · cases h
  | c v0 =>
    have hv : v = v0 := hv
    subst hv
    simp only at h
    unfold asD at h
    have : v = .slice none 0 0 ∧ xs = [] := by
      match v, h with
      | .slice none 0 0, h => simp at h; exact ⟨rfl, h.2⟩
    obtain ⟨rfl, rfl⟩ := this
    exact ⟨none, 0, rfl, Nat.le_refl _, Nat.zero_le _, .inl rfl⟩
  | d f' s y =>
    simp only at h
    cases s
    case nsl b =>
      simp only [asD] at h
      split at h
      · rename_i hb
        cases h
        obtain rfl := T.beq_eq hb
        obtain ⟨cs, rfl, v, rfl, hr, _⟩ := hv
        exact repSl_any hr (fun _ _ h => h)
      · cases h
    case sl b =>
      simp only [asD] at h
      split at h
      · rename_i hb
        cases h
        have hb' := T.beq_eq hb
        cases hb'
        obtain ⟨cs, rfl, v, rfl, hr⟩ := hv
        exact repSl_any hr (fun _ _ h => h)
      · cases h
    all_goals (simp [asD, T.beq] at h)
  | fnc g t x => simp [asD] at h
  | bnd g t x => simp [asD] at h
  | _ => simp [asD] at h

theorem repSl_cast {a b : T} (h : a.beq b = true) {R : (t : T) → t.den → List Value → Prop} {S : Nat → Prop} {xs : List a.den} {v : Value} (hr : repSl (R a) w S xs v) : repSl (R b) w S (castT (a := .sl a) (b := .sl b) h xs) v := by
  obtain rfl := T.beq_eq h
  exact hr

theorem c_mix {t : T} {fy : Bool} {x : t.den} {cs : List Value} (h : (reps P t).c w (dS B G m fy) x cs) (f0 : Bool) : (reps P t).c w (dS B G m (f0 && (fy || t.flat))) x cs := by
  cases hf : t.flat
  · exact c_and h (by cases fy <;> simp_all)
  · exact c_flat t hf h

theorem castT_flat {a b : T} (h : a.beq b = true) : a.flat = b.flat := by rw [T.beq_eq h]

/-- A slice of a nested own slice leaves it, made longer. -/
theorem inn_post (hm : MRel P B G m w w0) {k g d hh n : Nat} {f f' : Bool} {t : T} {xss : List (List t.den)} {xs' : List t.den} (hk : m k = some (g, .nl f t xss hh none)) (hkd : k ≠ d) {w' : World} {v : Value} {ob : Option (Nat × Nat)} (os : w'.os = w.os) (tape : w'.tape = w.tape) (output : w'.output = w.output) (size : w.heap.size ≤ w'.heap.size)
    (hblock : ∀ i, i < w.heap.size → (∀ o, (G k).ib n ≠ some (i, o)) → w'.heap[i]? = w.heap[i]?) (hob : ∀ b o, ob = some (b, o) → w.heap.size ≤ b ∨ ∃ o', (G k).ib n = some (b, o'))
    (hown : repOwn ((reps P t).c w (dS B G m f')) t.csize w' (fun _ => True) xs' v ob) {p : Prop} : Post P B w0 G m w ⟨p, .own d (nx m d), [(k, g, .nl f t xss (hh + 1) (some n)), (d, nx m d, .sl f' t xs')]⟩ v w' := by
  have hl := hm.loc k _ _ hk
  obtain ⟨vs, a1, a2, a3, a4, a5, a6, a7⟩ := hl
  obtain ⟨gk, hgk⟩ : ∃ gk : Gh, gk = ⟨(G k).hdr, (G k).blk, (G k).ih, fun i => if i = n then none else (G k).ib i, (G k).ex, (G k).hz⟩ := ⟨_, rfl⟩
  have hG1 : setG (setG G k gk) d (gh v ob) k = gk := by rw [setG_other _ _ hkd, setG_same]
  have hG2 : setG (setG G k gk) d (gh v ob) d = gh v ob := setG_same ..
  have hm1 : set1 (set1 m k g (.nl f t xss (hh + 1) (some n))) d (nx m d) (.sl f' t xs') k = some (g, .nl f t xss (hh + 1) (some n)) := by rw [set1_other _ _ _ (Ne.symm hkd), set1_same]
  have hm2 : set1 (set1 m k g (.nl f t xss (hh + 1) (some n))) d (nx m d) (.sl f' t xs') d = some (nx m d, .sl f' t xs') := set1_same ..
  have hib : ∀ i b o, gk.ib i = some (b, o) → i ≠ n ∧ (G k).ib i = some (b, o) := by
    intro i b o e
    rw [hgk] at e
    simp only at e
    split at e
    · cases e
    · rename_i hne; exact ⟨hne, e⟩
  have hb1 : gk.blk = (G k).blk := by rw [hgk]
  have old : ∀ b, ownL gk (.nl f t xss (hh + 1) (some n)) b → ownL (G k) (.nl f t xss hh none) b := by
    rintro b (⟨o, e⟩ | ⟨i, o, e⟩)
    · exact .inl ⟨o, by rw [← hb1]; exact e⟩
    · exact .inr ⟨i, o, (hib i b o e).2⟩
  have hch : Chgs (fun x => x = k ∨ x = d) B G m w (setG (setG G k gk) d (gh v ob)) (set1 (set1 m k g (.nl f t xss (hh + 1) (some n))) d (nx m d) (.sl f' t xs')) w' := by
    refine ⟨os, tape, output, size, fun x hx => ?_, fun i hi hne => hblock i hi fun o e => hne k g _ (.inl rfl) hk rfl (.inr ⟨n, o, e⟩), ?_, ?_, ?_, ?_⟩
    · have h1 : x ≠ k := fun e => hx (.inl e)
      have h2 : x ≠ d := fun e => hx (.inr e)
      exact ⟨by rw [set1_other _ _ _ (Ne.symm h2), set1_other _ _ _ (Ne.symm h1)], by rw [setG_other _ _ h2, setG_other _ _ h1]⟩
    · rintro x g1 l1 (rfl | rfl) hx hmut b e
      · rw [hm1] at hx; cases hx
        rw [hG1] at e
        exact .inr ⟨_, _, _, .inl rfl, hk, rfl, old b e⟩
      · rw [hm2] at hx; cases hx
        rw [hG2] at e
        obtain ⟨o, e⟩ := e
        rcases hob b o e with h | ⟨o', h⟩
        · exact .inl h
        · exact .inr ⟨_, _, _, .inl rfl, hk, rfl, .inr ⟨n, o', h⟩⟩
    · have key : ∀ b, ownL gk (.nl f t xss (hh + 1) (some n)) b → ownL (gh v ob) (.sl f' t xs') b → False := by
        rintro b e1 ⟨o, e2⟩
        have hlt := ((hm.loc k _ _ hk).own_lt rfl (old b e1)).1
        rcases hob b o e2 with h | ⟨o', h⟩
        · omega
        · rcases e1 with ⟨o1, e1⟩ | ⟨i, o1, e1⟩
          · exact a7 n b o' o1 h (by rw [← hb1]; exact e1)
          · obtain ⟨hne, e1⟩ := hib i b o1 e1
            exact hne (a6 i n b o1 o' e1 h)
      rintro x x' g1 g2 l1 l2 b (rfl | rfl) (rfl | rfl) hx hx' _ _ e e'
      · rfl
      · rw [hm1] at hx; cases hx; rw [hm2] at hx'; cases hx'
        rw [hG1] at e; rw [hG2] at e'
        exact (key b e e').elim
      · rw [hm2] at hx; cases hx; rw [hm1] at hx'; cases hx'
        rw [hG2] at e; rw [hG1] at e'
        exact (key b e' e).elim
      · rfl
    · rintro x g0 l0 (rfl | rfl) hx
      · rw [hk] at hx; cases hx
        refine ⟨g, _, hm1, Nat.le_refl _, fun _ => ?_⟩
        rw [hG1, hgk]
        exact ⟨fun p v h => h, rfl, fun _ _ _ h => h.elim, fun h1 n1 v1 h => ⟨by have := h.1; omega, fun e => by have := h.1; omega⟩, fun h1 n1 p1 v1 h => ⟨by have := h.1; omega, fun e => by have := h.1; omega⟩⟩
      · exact ⟨_, _, hm2, by simp [nx, hx], fun e => by simp [nx, hx] at e⟩
    · intro b o e hn
      refine (hblock b (Array.getElem?_eq_some_iff.1 e).1 fun o' h => ?_).trans e
      rcases (hm.loc k _ _ hk).own_isC rfl (b := b) (.inr ⟨n, o', h⟩) with h | ⟨_, _, _, h⟩ | h
      · exact hn h
      · cases h
      · cases h
  have he := hch.ext hm
  have hr := hch.rel hm (by
    rintro x g1 l1 (rfl | rfl) hx
    · rw [hm1] at hx; cases hx
      unfold LRep
      rw [hG1]
      have hbk : ∀ b o, (∃ o', (G x).blk = some (b, o')) ∨ (∃ i, i ≠ n ∧ (G x).ib i = some (b, o)) → w'.heap[b]? = w.heap[b]? := by
        intro b o h
        have hlt : b < w.heap.size := by
          rcases h with ⟨o', h⟩ | ⟨i, _, h⟩
          · exact ((hm.loc x _ _ hk).own_lt rfl (.inl ⟨o', h⟩)).1
          · exact ((hm.loc x _ _ hk).own_lt rfl (.inr ⟨i, o, h⟩)).1
        refine hblock b hlt fun o2 h2 => ?_
        rcases h with ⟨o', h⟩ | ⟨i, hne, h⟩
        · exact a7 n b o2 o' h2 h
        · exact hne (a6 i n b o o2 h h2)
      have hhdr : gk.hdr = (G x).hdr := by rw [hgk]
      have hih : gk.ih = (G x).ih := by rw [hgk]
      have hibn : ∀ i, gk.ib i = if i = n then none else (G x).ib i := fun i => by rw [hgk]
      rw [hhdr, hb1, hih]
      refine ⟨vs, a1.ext (fun b o e => hbk b o (.inl ⟨o, e⟩)) fun _ _ h => h, a2, fun i v hv => ?_, fun i xs hx hne => ?_, fun i hi => ?_, fun i i' b o o' e e' => ?_, fun i b o o' e => ?_⟩
      · by_cases e : i = n
        · exact .inr (by rw [e])
        · exact .inl ((a3 i v hv).resolve_right (by simp))
      · have hne : i ≠ n := fun e => hne (by rw [e])
        have := (a4 i xs hx (by simp)).ext (fun b o e => hbk b o (.inr ⟨i, hne, e⟩)) fun _ _ h' => he.c h'
        rw [hibn, if_neg hne]
        exact this
      · rw [hibn]
        split
        · rfl
        · rename_i hne
          refine a5 i (hi.imp id fun h => ?_)
          cases h; exact absurd rfl hne
      · exact a6 i i' b o o' (hib i b o e).2 (hib i' b o' e').2
      · exact a7 i b o o' (hib i b o e).2
    · rw [hm2] at hx; cases hx
      unfold LRep
      rw [hG2]
      rcases hown with h | ⟨b, off, cap, cur, e, h1, h2, h3, h4, h5, h6, h7, h8⟩
      · exact .inl h
      · refine .inr ⟨b, off, cap, cur, e, h1, h2, ?_, h4, h5, h6, h7, repL_mono (fun _ _ h => he.c h) _ _ h8⟩
        rcases hob b off h1 with h | ⟨o', h⟩
        · exact Nat.le_trans hm.base h
        · exact ((hm.loc k _ _ hk).own_lt rfl (.inr ⟨n, o', h⟩)).2)
  exact ⟨_, hr, he, _, _, hm2, Nat.le_refl _, fun _ => by rw [hG2]; rfl⟩

theorem aAppend_ok (hk : Cok P cx) (hm : MRel P B G m w w0) (hs : Sub m' m) {tys' : List TypeId} {dst : Option Nat} {x y : V} {e : Eff} (hd : ∀ d, dst = some d → m' d = m d) (h : aAppend cx tys' dst m' x y = some e) (hpre : e.pre) {vx vy : Value} (hx : ERep P B G m w x vx) (hy : ERep P B G m w y vy) (ty : TypeId) :
    ∃ v w', (Builtin.append_ tys'.toArray ty #[vx, vy]).run P w = .ok v w' ∧ Post P B w0 G m w e v w' := by
  unfold aAppend at h
  split at h
  · rename_i t1 t2
    split at h
    · rename_i a heq ht
      obtain rfl := Nat.eq_of_beq_eq_true heq
      obtain ⟨et, h1, h2⟩ := ty_sl (hk.Θ _ _ ht)
      split at h
      · rename_i fy ys hz ha
        have hys := asD_sl hk hm hs ha hy
        split at h
        · rename_i k g
          split at h
          · rename_i g2 f b xs e2
            split at h
            · rename_i hb
              split at h
              · rename_i hg
                cases h
                obtain rfl := T.beq_eq hb
                obtain ⟨g1, l, hkk, hle, hx⟩ := hx
                have := hs _ _ e2
                rw [hkk] at this; cases this
                have hvx := hx (Nat.eq_of_beq_eq_true hg)
                have hl := hm.loc k _ _ hkk
                unfold LRep at hl
                have hl' : repOwn ((reps P a).c w (dS B G m (f && (fy || a.flat)))) a.csize w (fun b => B.n ≤ b) xs (G k).hdr (G k).blk := hl.keep (Keep.refl _ _) (fun _ _ h => h) fun _ _ h => c_and h (by cases f <;> simp_all)
                have hys' := repSl_any (R' := (reps P a).c w (dS B G m (f && (fy || a.flat)))) hys (fun _ _ h => c_mix h _)
                obtain ⟨v', w', ob', r1, r2, r3, r4, r5, r6, r7, r8⟩ := run_append (ty := ty) h1 h2 hz (fun x cs h => ⟨c_len a h, c_one a h⟩) hl' hys' hpre
                refine ⟨v', w', ?_, own_post hm hkk r3 r4 r5 r6 r7 r8 r2⟩
                rw [hvx]; exact r1
              · cases h
            · cases h
          · cases h
        · rename_i k g hh n
          split at h
          · rename_i d g2 f b xss h2' e2
            split at h
            · rename_i hb
              split at h
              · rename_i hg
                cases h
                simp only [Bool.and_eq_true, Bool.not_eq_true'] at hg
                obtain ⟨hg1, hg2, hg3⟩ := hg
                obtain rfl := T.beq_eq hb
                have e3 := hs _ _ e2
                obtain rfl := Nat.eq_of_beq_eq_true hg1
                obtain rfl := Nat.eq_of_beq_eq_true hg2
                have hkd : k ≠ d := fun e => by rw [e] at hg3; simp at hg3
                obtain ⟨g1, l, hkk, hle, hx⟩ := hx
                rw [e3] at hkk; cases hkk
                obtain ⟨hlt, rfl⟩ := (hx rfl).2 rfl
                have hl := (hm.loc k _ _ e3)
                obtain ⟨vs, a1, a2, a3, a4, _⟩ := hl
                have hl := a4 n _ (getD_of_lt (d := []) hlt) (by simp)
                have hl' : repOwn ((reps P a).c w (dS B G m (f && (fy || a.flat)))) a.csize w (fun b => B.n ≤ b) (xss.getD n []) ((G k).ih n) ((G k).ib n) := hl.keep (Keep.refl _ _) (fun _ _ h => h) fun _ _ h => c_and h (by cases f <;> simp_all)
                have hys' := repSl_any (R' := (reps P a).c w (dS B G m (f && (fy || a.flat)))) hys (fun _ _ h => c_mix h _)
                obtain ⟨v', w', ob', r1, r2, r3, r4, r5, r6, r7, r8⟩ := run_append (ty := ty) h1 h2 hz (fun x cs h => ⟨c_len a h, c_one a h⟩) hl' hys' hpre
                rw [nx_eq (hd d rfl)]
                exact ⟨v', w', r1, inn_post hm e3 hkd r3 r4 r5 r6 r7 r8 r2⟩
              · cases h
            · cases h
          · cases h
        · split at h
          · rename_i d
            cases h
            have hvx : vx = .slice none 0 0 := hx
            subst hvx
            have hys' := repSl_any (R' := (reps P a).c w (dS B G m (fy || a.flat))) hys (fun _ _ h => by have := c_mix h true; simpa using this)
            obtain ⟨v', w', ob', r1, r2, r3, r4, r5, r6, r7, r8⟩ := run_append (ty := ty) h1 h2 hz (fun x cs h => ⟨c_len a h, c_one a h⟩) (S := fun _ => True) (.inl ⟨rfl, rfl, rfl⟩) hys' (by simpa using hpre)
            refine ⟨v', w', r1, sl_post hm (nx_eq (hd d rfl)) ⟨r3, r4, r5, r6, fun i hi => r7 i hi (fun o e => by cases e)⟩ (fun b o e => (r8 b o e).resolve_right (fun ⟨_, h⟩ => by cases h)) (by simpa using r2)⟩
          · cases h
        · cases h
      · cases h
    · cases h
  · cases h

/-! ### copy -/
theorem run_copy {dT sT e ty : TypeId} {a : T} (h1 : P.underlying dT = some (.slice e)) (h2 : (tys P a).ty e) {R : a.den → List Value → Prop} (hn : ∀ x cs, R x cs → cs.length = a.csize ∧ ∀ v ∈ cs, v.oneCell' = true) {ys : List a.den} {vy : Value} (hy : repSl R w (fun _ => True) ys vy)
    {b off dLen cap : Nat} {cur : Array Value} {ee : TypeId} (hb : w.heap[b]? = some (.cells cur ee (0, 0))) (hfit : off + dLen * a.csize ≤ cur.size) :
    ∃ cs, repL R (ys.take dLen) cs ∧ (Builtin.copy_ #[dT, sT] ty #[.slice (some ⟨b, off, none⟩) dLen cap, vy]).run P w = .ok (.int .i64 (min dLen ys.length : Nat)) (w.setRow b (cur.toList.take off ++ cs ++ cur.toList.drop (off + cs.length)).toArray) := by
  obtain ⟨fi, i1, i2, i3, i4⟩ := tys_info h2
  obtain ⟨ao, cap2, rfl, hcap2, hl2, hy⟩ := hy
  have hmin : Nat.min ys.length dLen = min dLen ys.length := by rw [Nat.min_comm]
  rcases hy with rfl | ⟨b2, off2, cs2, rfl, _, hb2, d1, d2⟩
  · refine ⟨[], by simp [repL], ?_⟩
    have hf : (Builtin.firstCells fi.size 0 (.slice ao 0 cap2)).run P w = .ok #[] w := by
      cases ao with
      | none => simp [Builtin.firstCells]
      | some a => simp [Builtin.firstCells, loadCells, loadCellsFrom]
    simp [Builtin.copy_, run_underlying h1, sizeOf, typeInfo, i1, Builtin.lenOf, hf, storeCells, goInt, setRow_self w b cur ee (0, 0) hb]
  · have hn1 : ∀ x cs, R x cs → cs.length = a.csize := fun x cs h => (hn x cs h).1
    have s1 : ys = ys.take dLen ++ ys.drop dLen := (List.take_append_drop _ _).symm
    have d3 := d2
    rw [s1] at d3
    obtain ⟨p1, _⟩ := repL_split hn1 _ _ _ d3
    have hlc := repL_len hn1 _ _ d2
    have hlp := repL_len hn1 _ _ p1
    have hlt : (ys.take dLen).length = Nat.min ys.length dLen := by rw [List.length_take, Nat.min_comm]
    have hone : ∀ (zs : List a.den) (cs : List Value), repL R zs cs → ∀ u ∈ cs, u.oneCell' = true := by
      intro zs
      induction zs with
      | nil => intro cs e u hu; simp [repL] at e; simp [e] at hu
      | cons z zs ih =>
        rintro cs ⟨q1, q2, e, k1, k2⟩ u hu
        rw [e] at hu
        rcases List.mem_append.1 hu with hu | hu
        · exact (hn z q1 k1).2 u hu
        · exact ih q2 k2 u hu
    refine ⟨_, p1, ?_⟩
    have hf := run_firstCells_some (P := P) w fi.size (Nat.min ys.length dLen) ⟨b2, off2, none⟩ ys.length cap2 (cs2.take ((ys.take dLen).length * a.csize)) (by rw [hlp, hlt, i2]) (fun j u h => by
      rw [addr_add]
      rw [List.getElem?_take] at h
      split at h
      · exact d1 j u h
      · cases h)
    have hle : (ys.take dLen).length * a.csize ≤ dLen * a.csize := Nat.mul_le_mul_right _ (by rw [List.length_take]; exact Nat.min_le_left _ _)
    have hst := run_storeCells_at P b off ee (cs2.take ((ys.take dLen).length * a.csize)) 0 cur w hb (by rw [hlp]; omega) (hone _ _ p1)
    simp only [Nat.add_zero] at hst
    simp only [Builtin.copy_, run_underlying h1, sizeOf, typeInfo, i1, Builtin.lenOf, Sem.run_bind, Result.andThen_ok, Sem.run_pure, run_program, hf, List.size_toArray, List.getElem?_toArray, List.getElem?_cons_zero, List.getElem?_cons_succ]
    simp only [hst, goInt, hmin, Result.andThen_ok, Sem.run_pure, List.toList_toArray]

theorem inI_min {a b : Nat} (h : b ≤ 140737488355328) : inI (((min a b : Nat)) : Int) := by
  have := Nat.min_le_right a b
  unfold inI
  omega

theorem splice_head (l cy : List Value) (A N : Nat) (hA : A + N ≤ l.length) (h : cy.length ≤ N) : ((l.take A ++ cy ++ l.drop (A + cy.length)).drop A).take N = cy ++ ((l.drop A).take N).drop cy.length := by
  rw [List.append_assoc, List.drop_left' (by simp; omega), List.take_append, List.take_of_length_le h, List.drop_take, List.drop_drop]

theorem copied {α : Type} {R : α → List Value → Prop} {size : Nat} (hn : ∀ x cs, R x cs → cs.length = size) {xs ys : List α} {cs cx : List Value} (h1 : repL R (ys.take xs.length) cs) (h2 : repL R xs cx) : repL R ((ys.take xs.length).append (xs.drop ys.length)) (cs ++ cx.drop cs.length) ∧ cs.length ≤ xs.length * size := by
  have hl := repL_len hn _ _ h1
  have hle : (ys.take xs.length).length ≤ xs.length := by rw [List.length_take]; exact Nat.min_le_left _ _
  refine ⟨?_, by rw [hl]; exact Nat.mul_le_mul_right _ hle⟩
  have e : xs.drop ys.length = xs.drop (ys.take xs.length).length := by
    rw [List.length_take]
    by_cases h : ys.length ≤ xs.length
    · rw [Nat.min_eq_right h]
    · rw [Nat.min_eq_left (by omega), List.drop_of_length_le (by omega), List.drop_of_length_le (by omega)]
  rw [e]
  have s1 : xs = xs.take (ys.take xs.length).length ++ xs.drop (ys.take xs.length).length := (List.take_append_drop _ _).symm
  have h3 := h2
  rw [s1] at h3
  obtain ⟨_, p2⟩ := repL_split hn _ _ _ h3
  have l1 : (xs.take (ys.take xs.length).length).length = (ys.take xs.length).length := by rw [List.length_take]; exact Nat.min_eq_left hle
  rw [l1, ← hl] at p2
  exact repL_append _ _ _ _ h1 p2

theorem splice_mid (l cy : List Value) (A N D : Nat) (hA : A + N ≤ l.length) (h : D + cy.length ≤ N) : ((l.take (A + D) ++ cy ++ l.drop (A + D + cy.length)).drop A).take N = (((l.drop A).take N).take D ++ cy) ++ ((l.drop A).take N).drop (D + cy.length) := by
  have e1 : l.take (A + D) ++ cy ++ l.drop (A + D + cy.length) = l.take A ++ (((l.drop A).take D ++ cy) ++ l.drop (A + D + cy.length)) := by
    rw [List.take_add]; simp only [List.append_assoc]
  rw [e1, List.drop_left' (by simp; omega), List.take_append, List.take_of_length_le (by simp; omega), List.take_take, Nat.min_eq_left (by omega), List.drop_take, List.drop_drop]
  congr 2
  · simp; omega
  · congr 1; omega

theorem aCopyS_ok (hm : MRel P B G m w w0) (hs : Sub m' m) {a : T} {x y : V} {e : Eff} (h : aCopyS a m' x y = some e) {vx vy : Value} (hx : ERep P B G m w x vx) (hy : ERep P B G m w y vy) {t1 t2 et ty : TypeId} (h1 : P.underlying t1 = some (.slice et)) (h2 : (tys P a).ty et) :
    ∃ v w', (Builtin.copy_ #[t1, t2] ty #[vx, vy]).run P w = .ok v w' ∧ Post P B w0 G m w e v w' := by
  unfold aCopyS at h
  split at h
  · rename_i k g lo hi k2 g2 lo2 hi2
    split at h
    · rename_i g' f b xs e2
      split at h
      · rename_i hb
        simp only [Bool.and_eq_true] at hb
        obtain ⟨⟨⟨b1, b2⟩, b3⟩, b4⟩ := hb
        obtain rfl := Nat.eq_of_beq_eq_true b1
        obtain rfl := Nat.eq_of_beq_eq_true b2
        obtain rfl : g = g2 := (Nat.eq_of_beq_eq_true b3).symm
        obtain rfl := T.beq_eq b4
        cases h
        have hkk := hs _ _ e2
        obtain ⟨ga, la, x1, _, x2⟩ := hx
        rw [hkk] at x1; cases x1
        obtain ⟨gb, lb, y1, _, y2⟩ := hy
        rw [hkk] at y1; cases y1
        obtain ⟨p1, p2, ao, cap, p3, p4, rfl⟩ := x2 rfl
        obtain ⟨q1, q2, ao', cap', q3, q4, rfl⟩ := y2 rfl
        rw [p3] at q3
        cases q3
        have hl := hm.loc k _ _ hkk
        unfold LRep at hl
        rw [p3] at hl
        have hcl : ∀ (x : b.den) cs, (reps P b).c w (dS B G m f) x cs → cs.length = b.csize := fun x cs h => c_len b h
        obtain ⟨ob2, c1, _⟩ := repOwn_slice (l := lo2) (h := hi2) (k := cap) hcl hl (by omega) (by omega) (by omega) (by omega) (Nat.le_refl _)
        simp only [Int.toNat_natCast] at c1
        have hys : repSl ((reps P b).c w (dS B G m f)) w (fun _ => True) ((xs.take hi2).drop lo2) (.slice (if cap = lo2 then ao else ao.map (·.add (lo2 * b.csize))) (hi2 - lo2) (cap - lo2)) := repSl_of_own c1 (fun _ _ _ => trivial) (fun _ _ h => h)
        have hyl : ((xs.take hi2).drop lo2).length = hi2 - lo2 := by simp; omega
        rcases hl with ⟨r1, rfl, r3⟩ | ⟨bb, off, cp, cur, ee, r1, r2, r3, r4, r5, r6, r7, r8⟩
        · cases r1
          have z1 : lo = 0 := by simp at p2; omega
          have z2 : hi = 0 := by simp at p2; omega
          have z3 : lo2 = 0 := by simp at q2; omega
          have z4 : hi2 = 0 := by simp at q2; omega
          subst z1; subst z2; subst z3; subst z4
          have hch : Chg B G m w k g (G k) (.sl f b []) w := ⟨rfl, rfl, rfl, Nat.le_refl _, fun _ _ _ => rfl, fun _ b ⟨o, e⟩ => (by rw [r3] at e; cases e), fun g0 l0 e => (by
            rw [hkk] at e; cases e
            exact ⟨Nat.le_refl _, fun _ => LExt.sl rfl _⟩), fun _ _ h _ => h⟩
          refine ⟨.int .i64 0, w, ?_, ⟨G, ?_, ?_, ?_⟩⟩
          · obtain ⟨fi, i1, i2, i3, i4⟩ := tys_info h2
            have hf : (Builtin.firstCells fi.size 0 (.slice none 0 0)).run P w = .ok #[] w := by simp [Builtin.firstCells]
            simp [Builtin.copy_, run_underlying h1, sizeOf, typeInfo, i1, Builtin.lenOf, hf, goInt]
          · have := hch.rel hm (by unfold LRep; rw [setG_self]; exact .inl ⟨by rw [p3]; rfl, rfl, r3⟩)
            rw [setG_self] at this
            simpa [putLoc] using this
          · have := hch.ext hm
            rw [setG_self] at this
            simpa [putLoc] using this
          · simpa using int_rep (P := P) (B := B) (G := G) (w := w) (f := true) (n := 0) (by constructor <;> decide)
        · cases r2
          have hcap : xs.length * b.csize ≤ cap * b.csize := Nat.mul_le_mul_right _ r5
          have hD : lo * b.csize + (hi - lo) * b.csize = hi * b.csize := by rw [← Nat.add_mul]; congr 1; omega
          have hD2 : hi * b.csize ≤ xs.length * b.csize := Nat.mul_le_mul_right _ p2
          have hdst : (Value.slice (if cap = lo then some ⟨bb, off, none⟩ else (some (⟨bb, off, none⟩ : Addr)).map (·.add (lo * b.csize))) (hi - lo) (cap - lo)) = .slice (some ⟨bb, off + (if cap = lo then 0 else lo * b.csize), none⟩) (hi - lo) (cap - lo) := by
            split <;> simp [addr_add]
          have hfit : off + (if cap = lo then 0 else lo * b.csize) + (hi - lo) * b.csize ≤ cur.size := by
            split
            · have : hi - lo = 0 := by omega
              rw [this]; omega
            · omega
          obtain ⟨cs, s1, s2⟩ := run_copy (ty := ty) (sT := t2) (cap := cap - lo) h1 h2 (fun x cs h => ⟨c_len b h, c_one b h⟩) hys r4 (dLen := hi - lo) (off := off + (if cap = lo then 0 else lo * b.csize)) hfit
          have hcsl := repL_len hcl _ _ s1
          have hmin : (((xs.take hi2).drop lo2).take (hi - lo)).length = min (hi - lo) (hi2 - lo2) := by rw [List.length_take, hyl]
          rw [hmin] at hcsl
          have hmul : min (hi - lo) (hi2 - lo2) * b.csize ≤ (hi - lo) * b.csize := Nat.mul_le_mul_right _ (Nat.min_le_left _ _)
          have hlen : (xs.take lo ++ ((xs.take hi2).drop lo2).take (hi - lo) ++ xs.drop (lo + min (hi - lo) (hi2 - lo2))).length = xs.length := by
            rw [List.length_append, List.length_append, hmin, List.length_take, List.length_drop]; omega
          have hD3 : off + (if cap = lo then 0 else lo * b.csize) = off + lo * b.csize ∨ cs = [] := by
            by_cases hc : cap = lo
            · right
              have : min (hi - lo) (hi2 - lo2) = 0 := by omega
              rw [this, Nat.zero_mul] at hcsl
              exact List.eq_nil_of_length_eq_zero hcsl
            · left; rw [if_neg hc]
          have hrow : (cur.toList.take (off + (if cap = lo then 0 else lo * b.csize)) ++ cs ++ cur.toList.drop (off + (if cap = lo then 0 else lo * b.csize) + cs.length)) = (cur.toList.take (off + lo * b.csize) ++ cs ++ cur.toList.drop (off + lo * b.csize + cs.length)) := by
            rcases hD3 with e | rfl
            · rw [e]
            · simp
          have hch := Chg.row (l' := .sl f b (xs.take lo ++ ((xs.take hi2).drop lo2).take (hi - lo) ++ xs.drop (lo + min (hi - lo) (hi2 - lo2)))) hm hkk rfl r4 ⟨_, r1⟩ (LExt.sl (f := f) (f' := f) (xs := xs) (xs' := xs.take lo ++ ((xs.take hi2).drop lo2).take (hi - lo) ++ xs.drop (lo + min (hi - lo) (hi2 - lo2))) hlen.symm) (fun _ h => h) (cur.toList.take (off + lo * b.csize) ++ cs ++ cur.toList.drop (off + lo * b.csize + cs.length)).toArray
          have hex := hch.ext hm
          have hll := hch.rel hm (by
            unfold LRep
            rw [setG_self]
            refine .inr ⟨bb, off, cap, _, ee, r1, by rw [hlen]; exact p3, r3, setRow_heap w bb cur _ ee _ r4, by rw [hlen]; exact r5, by rw [hlen]; exact r6, ?_, ?_⟩
            · simp only [List.size_toArray, List.length_append, List.length_take, List.length_drop, Array.length_toList]; omega
            · rw [setG_self] at hex
              rw [hlen, List.toList_toArray, splice_mid _ _ off (xs.length * b.csize) (lo * b.csize) (by rw [Array.length_toList]; exact Nat.le_trans (Nat.add_le_add_left hcap off) r7) (by rw [← hcsl] at hmul; omega)]
              refine repL_mono (fun _ _ h => hex.c h) _ _ ?_
              have f1 : xs = xs.take lo ++ xs.drop lo := (List.take_append_drop _ _).symm
              have k1 := r8
              rw [f1] at k1
              obtain ⟨t1', _⟩ := repL_split hcl _ _ _ k1
              have f2 : xs = xs.take (lo + min (hi - lo) (hi2 - lo2)) ++ xs.drop (lo + min (hi - lo) (hi2 - lo2)) := (List.take_append_drop _ _).symm
              have k2 := r8
              rw [f2] at k2
              obtain ⟨_, t2'⟩ := repL_split hcl _ _ _ k2
              have g1 : (xs.take lo).length = lo := by rw [List.length_take]; omega
              have g2 : (xs.take (lo + min (hi - lo) (hi2 - lo2))).length = lo + min (hi - lo) (hi2 - lo2) := by rw [List.length_take]; omega
              rw [← f1, g1] at t1'
              rw [← f2, g2, Nat.add_mul, ← hcsl] at t2'
              exact repL_append _ _ _ _ (repL_append _ _ _ _ t1' s1) t2')
          rw [setG_self] at hex hll
          refine ⟨_, _, by rw [hdst]; exact s2, G, by rw [hrow]; exact hll, by rw [hrow]; exact hex, ?_⟩
          rw [hyl]
          exact int_rep (inI_min (by omega))
      · cases h
    · cases h
  · cases h

theorem set1_eq {m : Mem} {k g : Nat} {l : Tk.L} (h : m k = some (g, l)) : set1 m k g l = m := by
  funext n
  unfold set1
  split
  · rename_i e
    rw [← Nat.eq_of_beq_eq_true e, h]
  · rfl

/-- A part of an own slice is cleared. -/
theorem aClear_ok (hk : Cok P cx) (hm : MRel P B G m w w0) (hs : Sub m' m) {tys' : List TypeId} {x : V} {e : Eff} (h : aClear cx tys' m' x = some e) {vx : Value} (hx : ERep P B G m w x vx) (ty : TypeId) :
    ∃ v w', (Builtin.clear_ tys'.toArray ty #[vx]).run P w = .ok v w' ∧ Post P B w0 G m w e v w' := by
  unfold aClear at h
  split at h
  · rename_i t1 trest
    split at h
    · rename_i a ht
      obtain ⟨et, h1, h2⟩ := ty_sl (hk.Θ _ _ ht)
      split at h
      · rename_i k g lo hi hz
        split at h
        · rename_i g' f b xs e2
          split at h
          · rename_i hb
            rw [Bool.and_eq_true] at hb
            obtain rfl := Nat.eq_of_beq_eq_true hb.1
            obtain rfl := T.beq_eq hb.2
            cases h
            have hkk := hs _ _ e2
            obtain ⟨ga, la, x1, _, x2⟩ := hx
            rw [hkk] at x1; cases x1
            obtain ⟨p1, p2, ao, cap, p3, p4, rfl⟩ := x2 rfl
            have hl := hm.loc k _ _ hkk
            unfold LRep at hl
            rw [p3] at hl
            have hcl : ∀ (x : b.den) cs, (reps P b).c w (dS B G m f) x cs → cs.length = b.csize := fun x cs h => c_len b h
            by_cases hz0 : hi - lo = 0
            · have hsame : xs.take lo ++ List.replicate (hi - lo) b.dflt ++ xs.drop hi = xs := by
                rw [hz0, show hi = lo by omega]; simp
              refine ⟨.tuple #[], w, ?_, G, ?_, ?_, trivial⟩
              · rw [hz0]
                cases hq : (if cap = lo then ao else ao.map (·.add (lo * b.csize))) <;> simp [Builtin.clear_, run_underlying h1]
              · rw [hsame, putLoc_one, set1_eq hkk]; exact hm
              · rw [hsame, putLoc_one, set1_eq hkk]; exact Ext.refl
            · rcases hl with ⟨r1, rfl, r3⟩ | ⟨bb, off, cp, cur, ee, r1, r2, r3, r4, r5, r6, r7, r8⟩
              · simp at p2; omega
              · cases r2
                have hcap : xs.length * b.csize ≤ cap * b.csize := Nat.mul_le_mul_right _ r5
                have hD : lo * b.csize + (hi - lo) * b.csize = hi * b.csize := by rw [← Nat.add_mul]; congr 1; omega
                have hD2 : hi * b.csize ≤ xs.length * b.csize := Nat.mul_le_mul_right _ p2
                have hne : ¬ cap = lo := by omega
                have hdst : (Value.slice (if cap = lo then some ⟨bb, off, none⟩ else (some (⟨bb, off, none⟩ : Addr)).map (·.add (lo * b.csize))) (hi - lo) (cap - lo)) = .slice (some ⟨bb, off + lo * b.csize, none⟩) (hi - lo) (cap - lo) := by
                  rw [if_neg hne]; simp [addr_add]
                let cs : List Value := (List.replicate (hi - lo) (zeroCs b)).flatten
                have s1 : repL ((reps P b).c w (dS B G m f)) (List.replicate (hi - lo) b.dflt) cs := repL_replicate (zeroCs_c hz) _
                have hcsl := repL_len hcl _ _ s1
                rw [List.length_replicate] at hcsl
                have hone : ∀ v ∈ cs, v.oneCell' = true := by
                  intro v hv
                  obtain ⟨l, hl1, hl2⟩ := List.mem_flatten.1 hv
                  rw [List.eq_of_mem_replicate hl1] at hl2
                  exact c_one (P := P) (w := w) (S := fun _ => True) b (zeroCs_c hz) v hl2
                have hzc : (Builtin.zeroCells (mkV b (zeroCs b)).cells (hi - lo)).toList = cs := by
                  unfold Builtin.zeroCells
                  rw [zero_cells P w hz]
                  have hzl : (zeroCs b).length = b.csize := c_len (P := P) (w := w) (S := fun _ => True) b (zeroCs_c hz)
                  have := zero_row P w b hz (hi - lo)
                  by_cases h0 : (hi - lo) * b.csize = 0
                  · have hc0 : cs = [] := List.eq_nil_of_length_eq_zero (by rw [hcsl, h0])
                    rw [hc0]
                    simp [hzl, h0]
                  · simp only [h0, if_false] at this
                    rw [show cs = (List.replicate (hi - lo) (zeroCs b)).flatten from rfl, ← this]
                    simp [hzl]
                have hst := run_storeCells_at P bb (off + lo * b.csize) ee cs 0 cur w r4 (by rw [hcsl]; omega) hone
                simp only [Nat.add_zero] at hst
                have hrun : (Builtin.clear_ (t1 :: trest).toArray ty #[.slice (some ⟨bb, off + lo * b.csize, none⟩) (hi - lo) (cap - lo)]).run P w = .ok (.tuple #[]) (w.setRow bb (cur.toList.take (off + lo * b.csize) ++ cs ++ cur.toList.drop (off + lo * b.csize + cs.length)).toArray) := by
                  obtain ⟨n, hn⟩ : ∃ n, hi - lo = n + 1 := ⟨hi - lo - 1, by omega⟩
                  have hu := run_underlying h1 w
                  have hzv := tys_zero h2 hz w
                  rw [hn] at hzc ⊢
                  simp [Builtin.clear_, hu, hzv, hzc, hst]
                have hlen : (xs.take lo ++ List.replicate (hi - lo) b.dflt ++ xs.drop hi).length = xs.length := by
                  rw [List.length_append, List.length_append, List.length_replicate, List.length_take, List.length_drop]; omega
                have hch := Chg.row (l' := .sl f b (xs.take lo ++ List.replicate (hi - lo) b.dflt ++ xs.drop hi)) hm hkk rfl r4 ⟨_, r1⟩ (LExt.sl (f := f) (f' := f) (xs := xs) (xs' := xs.take lo ++ List.replicate (hi - lo) b.dflt ++ xs.drop hi) hlen.symm) (fun _ h => h) (cur.toList.take (off + lo * b.csize) ++ cs ++ cur.toList.drop (off + lo * b.csize + cs.length)).toArray
                have hex := hch.ext hm
                have hll := hch.rel hm (by
                  unfold LRep
                  rw [setG_self]
                  refine .inr ⟨bb, off, cap, _, ee, r1, by rw [hlen]; exact p3, r3, setRow_heap w bb cur _ ee _ r4, by rw [hlen]; exact r5, by rw [hlen]; exact r6, ?_, ?_⟩
                  · simp only [List.size_toArray, List.length_append, List.length_take, List.length_drop, Array.length_toList]; omega
                  · rw [setG_self] at hex
                    rw [hlen, List.toList_toArray, splice_mid _ _ off (xs.length * b.csize) (lo * b.csize) (by rw [Array.length_toList]; exact Nat.le_trans (Nat.add_le_add_left hcap off) r7) (by rw [hcsl]; omega)]
                    refine repL_mono (fun _ _ h => hex.c h) _ _ ?_
                    have f1 : xs = xs.take lo ++ xs.drop lo := (List.take_append_drop _ _).symm
                    have k1 := r8
                    rw [f1] at k1
                    obtain ⟨t1', _⟩ := repL_split hcl _ _ _ k1
                    have f2 : xs = xs.take hi ++ xs.drop hi := (List.take_append_drop _ _).symm
                    have k2 := r8
                    rw [f2] at k2
                    obtain ⟨_, t2'⟩ := repL_split hcl _ _ _ k2
                    have g1 : (xs.take lo).length = lo := by rw [List.length_take]; omega
                    have g2 : (xs.take hi).length = hi := by rw [List.length_take]; omega
                    rw [← f1, g1] at t1'
                    rw [← f2, g2, ← hD, ← hcsl] at t2'
                    exact repL_append _ _ _ _ (repL_append _ _ _ _ t1' s1) t2')
                rw [setG_self] at hex hll
                exact ⟨_, _, by rw [hdst]; exact hrun, G, hll, hex, trivial⟩
          · cases h
        · cases h
      · cases h
    · cases h
  · cases h

theorem aCopy_ok (hk : Cok P cx) (hm : MRel P B G m w w0) (hs : Sub m' m) {tys' : List TypeId} {x y : V} {e : Eff} (h : aCopy cx tys' m' x y = some e) {vx vy : Value} (hx : ERep P B G m w x vx) (hy : ERep P B G m w y vy) (ty : TypeId) :
    ∃ v w', (Builtin.copy_ tys'.toArray ty #[vx, vy]).run P w = .ok v w' ∧ Post P B w0 G m w e v w' := by
  unfold aCopy at h
  split at h
  · rename_i t1 t2
    split at h
    · rename_i a a2 ht ht2
      obtain ⟨et, h1, h2⟩ := ty_sl (hk.Θ _ _ ht)
      split at h
      · exact aCopyS_ok hm hs h hx hy h1 h2
      · rename_i fy ys haa ha
        have hys := asD_sl hk hm hs ha hy
        split at h
        · rename_i k g
          obtain ⟨g1, l, hkk, hle, hx⟩ := hx
          split at h
          · rename_i g2 f b xs e2
            split at h
            · rename_i hb
              split at h
              · rename_i hg
                cases h
                obtain rfl := T.beq_eq hb
                have := hs _ _ e2
                rw [hkk] at this; cases this
                have hvx := hx (Nat.eq_of_beq_eq_true hg)
                have hl := hm.loc k _ _ hkk
                have hys' := repSl_any (R' := (reps P a).c w (dS B G m (f && (fy || a.flat)))) hys (fun _ _ h => c_mix h _)
                have hcl : ∀ (x : a.den) cs, (reps P a).c w (dS B G m (f && (fy || a.flat))) x cs → cs.length = a.csize := fun x cs h => c_len a h
                rcases hl with ⟨q1, rfl, q3⟩ | ⟨bb, off, cap, cur, ee, q1, q2, q3, q4, q5, q6, q7, q8⟩
                · refine ⟨.int .i64 0, w, ?_, ⟨G, ?_, ?_, ?_⟩⟩
                  · obtain ⟨ao, cap2, rfl, _, _, hyr⟩ := hys
                    rw [hvx]
                    simp only [hdrOf, q1]
                    obtain ⟨fi, i1, i2, i3, i4⟩ := tys_info h2
                    have hf : (Builtin.firstCells fi.size 0 (.slice ao ys.length cap2)).run P w = .ok #[] w := by
                      cases ao with
                      | none => simp [Builtin.firstCells]
                      | some a => simp [Builtin.firstCells, loadCells, loadCellsFrom]
                    simp [Builtin.copy_, run_underlying h1, sizeOf, typeInfo, i1, Builtin.lenOf, hf, goInt]
                  · have hch : Chg B G m w k g1 (G k) (.sl (f && (fy || a.flat)) a []) w := ⟨rfl, rfl, rfl, Nat.le_refl _, fun _ _ _ => rfl, fun _ b ⟨o, e⟩ => (by rw [q3] at e; cases e), fun g0 l0 e => (by
                      rw [hkk] at e; cases e
                      exact ⟨Nat.le_refl _, fun _ => LExt.sl rfl _⟩), fun _ _ h _ => h⟩
                    have := hch.rel hm (by unfold LRep; rw [setG_self]; exact .inl ⟨q1, rfl, q3⟩)
                    rw [setG_self] at this
                    simpa [putLoc] using this
                  · have hch : Chg B G m w k g1 (G k) (.sl (f && (fy || a.flat)) a []) w := ⟨rfl, rfl, rfl, Nat.le_refl _, fun _ _ _ => rfl, fun _ b ⟨o, e⟩ => (by rw [q3] at e; cases e), fun g0 l0 e => (by
                      rw [hkk] at e; cases e
                      exact ⟨Nat.le_refl _, fun _ => LExt.sl rfl _⟩), fun _ _ h _ => h⟩
                    have := hch.ext hm
                    rw [setG_self] at this
                    simpa [putLoc] using this
                  · simpa using int_rep (P := P) (B := B) (G := G) (w := w) (f := true) (n := 0) (by constructor <;> decide)
                · have q8' := repL_mono (fun _ _ h => c_and h (f' := f && (fy || a.flat)) (by cases f <;> simp_all)) _ _ q8
                  have hcap : xs.length * a.csize ≤ cap * a.csize := Nat.mul_le_mul_right _ q5
                  obtain ⟨cs, r1, r2⟩ := run_copy (ty := ty) (sT := t2) (cap := cap) h1 h2 (fun x cs h => ⟨c_len a h, c_one a h⟩) hys' q4 (dLen := xs.length) (off := off) (by omega)
                  obtain ⟨r3, r4⟩ := copied hcl r1 q8'
                  have hlen : ((ys.take xs.length).append (xs.drop ys.length)).length = xs.length := by simp; omega
                  have hch := Chg.row (l' := .sl (f && (fy || a.flat)) a ((ys.take xs.length).append (xs.drop ys.length))) hm hkk rfl q4 ⟨_, q1⟩ (LExt.sl (f := f) (f' := f && (fy || a.flat)) (xs := xs) (xs' := (ys.take xs.length).append (xs.drop ys.length)) hlen.symm) (fun _ h => h) (cur.toList.take off ++ cs ++ cur.toList.drop (off + cs.length)).toArray
                  have hex := hch.ext hm
                  have hll := hch.rel hm (by
                    unfold LRep
                    rw [setG_self]
                    refine .inr ⟨bb, off, cap, _, ee, q1, by rw [hlen]; exact q2, q3, setRow_heap w bb cur _ ee _ q4, by rw [hlen]; exact q5, by rw [hlen]; exact q6, ?_, ?_⟩
                    · simp only [List.size_toArray, List.length_append, List.length_take, List.length_drop, Array.length_toList]; omega
                    · rw [setG_self] at hex
                      rw [hlen, List.toList_toArray, splice_head _ _ _ (xs.length * a.csize) (by rw [Array.length_toList]; exact Nat.le_trans (Nat.add_le_add_left hcap off) q7) r4]
                      exact repL_mono (fun _ _ h => hex.c h) _ _ r3)
                  rw [setG_self] at hex hll
                  refine ⟨_, _, by rw [hvx]; simp only [hdrOf, q2]; exact r2, G, hll, hex, int_rep ?_⟩
                  obtain ⟨_, _, _, _, hy2, _⟩ := hys
                  exact inI_min hy2
              · cases h
            · cases h
          · rename_i g2 f l' b xs e2
            split at h
            · rename_i hb
              split at h
              · rename_i hg
                cases h
                obtain rfl := T.beq_eq hb
                have := hs _ _ e2
                rw [hkk] at this; cases this
                have hvx := hx (Nat.eq_of_beq_eq_true hg)
                obtain ⟨bb, cur, ee, q1, q2, q3, q4, q5, q8⟩ := hm.loc k _ _ hkk
                have q5 : List.length xs = l' := q5
                have hys' := repSl_any (R' := (reps P a).c w (dS B G m (f && (fy || a.flat)))) hys (fun _ _ h => c_mix h _)
                have hcl : ∀ (x : a.den) cs, (reps P a).c w (dS B G m (f && (fy || a.flat))) x cs → cs.length = a.csize := fun x cs h => c_len a h
                have q8' := repL_mono (fun _ _ h => c_and h (f' := f && (fy || a.flat)) (by cases f <;> simp_all)) _ _ q8
                have hcur := repL_len hcl _ _ q8'
                rw [Array.length_toList] at hcur
                obtain ⟨cs, r1, r2⟩ := run_copy (ty := ty) (sT := t2) (cap := l') h1 h2 (fun x cs h => ⟨c_len a h, c_one a h⟩) hys' q4 (dLen := List.length xs) (off := 0) (by omega)
                obtain ⟨r3, r4⟩ := copied hcl r1 q8'
                have hlen : ((ys.take (List.length xs)).append (List.drop ys.length xs)).length = List.length xs := by simp; omega
                have hch := Chg.row (l' := .box (f && (fy || a.flat)) (.arr l' a) ((ys.take (List.length xs)).append (List.drop ys.length xs))) hm hkk rfl q4 ⟨0, q1⟩ (LExt.box (f := f) (f' := f && (fy || a.flat)) (t := .arr l' a) (x := xs) (x' := (ys.take (List.length xs)).append (List.drop ys.length xs))) (fun _ h => h) (cur.toList.take 0 ++ cs ++ cur.toList.drop (0 + cs.length)).toArray
                have hex := hch.ext hm
                have hll := hch.rel hm (by
                  unfold LRep
                  rw [setG_self]
                  refine ⟨bb, _, ee, q1, q2, q3, setRow_heap w bb cur _ ee _ q4, ?_⟩
                  rw [setG_self] at hex
                  refine hex.c (t := .arr l' a) ⟨by rw [hlen]; exact q5, ?_⟩
                  simpa using r3)
                rw [setG_self] at hex hll
                refine ⟨_, _, by rw [hvx]; simp only [hdrOf, q2]; have r2' := r2; rw [show Value.slice (some ⟨bb, 0, none⟩) (List.length xs) l' = Value.slice (some ⟨bb, 0, none⟩) l' l' by rw [q5]] at r2'; exact r2', G, hll, hex, int_rep ?_⟩
                obtain ⟨_, _, _, _, hy2, _⟩ := hys
                exact inI_min hy2
              · cases h
            · cases h
          · cases h
        · cases h
      · cases h
    · cases h
  · cases h

end

end Go.Tk
