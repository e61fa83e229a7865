/- The engine, part H: the operations that build aggregates and slices do what their abstract twins say. No conditions. -/
import Derived.Test.YtmedjckknalpbaaEngG
set_option linter.unusedSimpArgs false
namespace Go.Tk
open Go Go.RowKit

theorem Sub.refl (m : Mem) : Sub m m := fun _ _ h => h

theorem Sub.set1 {m' m : Mem} (h : Sub m' m) (k g : Nat) (l : L) : Sub (set1 m' k g l) (set1 m k g l) := by
  intro n x hn
  rcases set1_cases hn with ⟨rfl, rfl⟩ | ⟨hne, hn⟩
  · exact set1_same ..
  · rw [set1_other m g l (Ne.symm hne)]; exact h n x hn

theorem Sub.put {m' m : Mem} (h : Sub m' m) : ∀ u, Sub (putLoc m' u) (putLoc m u)
  | [] => h
  | (k, g, l) :: u => Sub.put (h.set1 k g l) u

theorem foldl_put (off : Nat) : ∀ (cy : List Value) (k : Nat) (cs : Array Value), off + k + cy.length ≤ cs.size →
    ((cy.zipIdx k).foldl (fun cs (c, j) => cs.setIfInBounds (off + j) c) cs).toList = cs.toList.take (off + k) ++ cy ++ cs.toList.drop (off + k + cy.length)
  | [], k, cs, _ => by simp
  | v :: cy, k, cs, h => by
    simp only [List.length_cons] at h
    have ih := foldl_put off cy (k + 1) (cs.setIfInBounds (off + k) v) (by simp; omega)
    simp only [List.zipIdx_cons, List.foldl_cons]
    rw [ih, Array.toList_setIfInBounds]
    have e := list_seg_step cs.toList (off + k) v cy (by simp; omega)
    simpa [Nat.add_assoc] using e

section
variable {P : Program} {B : Bs} {G : Nat → Gh} {m m' : Mem} {w w0 : World} {cx : Cx}

/-- 'build' and 'buildSlice' put each part where its type says. -/
def PlaceOK (u : T) (place : Nat → Option (Nat × Nat)) : Prop := ∀ i s, u.part i = some s → ∃ off, place i = some (off, s.csize) ∧ u.off [u.step i] = some off ∧ u.valid [u.step i]

theorem bld_spec (hk : Cok P cx) {u : T} {place : Nat → Option (Nat × Nat)} (hp : PlaceOK u place) :
    ∀ (l : List (Nat × V)) (vals : List (Nat × Value)) (m m' : Mem) (f : Bool) (x : u.den) (cs : Array Value) (f' : Bool) (x' : u.den) (us : List (Nat × Nat × L)), MRel P B G m w w0 → Sub m' m → (reps P u).c w (dS B G m f) x cs.toList →
      l.length = vals.length → (∀ (j : Nat) (p : Nat × V) (q : Nat × Value), l[j]? = some p → vals[j]? = some q → p.1 = q.1 ∧ ERep P B G m w p.2 q.2) → bld cx.Γ u l m' f x = some (f', x', us) →
      ∃ cs', Instr.fill place cs vals = some cs' ∧ MRel P B G (putLoc m us) w w0 ∧ Ext B G m w G (putLoc m us) w ∧ (reps P u).c w (dS B G (putLoc m us) f') x' cs'.toList ∧ ∀ d, nx (putLoc m us) d = nx m d := by
  intro l
  induction l with
  | nil =>
    intro vals m m' f x cs f' x' us hm hs hc hl hv h
    cases vals with
    | cons _ _ => simp at hl
    | nil =>
      cases h
      exact ⟨cs, rfl, hm, Ext.refl, hc, fun _ => rfl⟩
  | cons p l ih =>
    intro vals m m' f x cs f' x' us hm hs hc hl hv h
    cases vals with
    | nil => simp at hl
    | cons q vals =>
      obtain ⟨i, V⟩ := p
      obtain ⟨i2, v⟩ := q
      obtain ⟨e1, hV⟩ := hv 0 (i, V) (i2, v) rfl rfl
      simp only at e1 hV
      subst e1
      unfold bld at h
      split at h
      · rename_i s hpart
        split at h
        · rename_i fv y us1 hst
          split at h
          · rename_i x1 hput
            split at h
            · rename_i f2 x2 us2 hrest
              cases h
              obtain ⟨off, h1, h2, h3⟩ := hp _ _ hpart
              obtain ⟨r1, r2, cy, rfl, r3⟩ := stor_spec hk hm hs hst hV
              have hfl : (reps P s).c w (dS B G (putLoc m us1) (f && (fv || s.flat))) y cy := by
                cases hsf : s.flat
                · exact c_and r3 (by cases f <;> simp_all)
                · exact c_flat s hsf r3
              have hc1 : (reps P u).c w (dS B G (putLoc m us1) (f && (fv || s.flat))) x cs.toList := c_and (r2.c hc) (by cases f <;> simp_all)
              obtain ⟨r4, r5⟩ := put_c _ _ _ _ _ _ _ hput h2 h3 hc1 hfl
              have hlen := c_len s r3
              have hcv : (mkV s cy).cells = cy.toArray := mkV_cells r3
              have hfold := foldl_put off cy 0 cs (by simpa using r5)
              simp only [Nat.add_zero] at hfold
              have hfold' : (cy.toArray.zipIdx.foldl (fun cs (c, j) => cs.setIfInBounds (off + j) c) cs).toList = cs.toList.take off ++ cy ++ cs.toList.drop (off + cy.length) := by
                rw [← hfold]
                simp
              obtain ⟨cs', a1, a2, a3, a4, a5⟩ := ih vals (putLoc m us1) (putLoc m' us1) _ x1 (cy.toArray.zipIdx.foldl (fun cs (c, j) => cs.setIfInBounds (off + j) c) cs) f' x' us2 r1 (hs.put us1) (by rw [hfold']; exact r4) (by simpa using hl)
                (fun j p q hp hq => by
                  obtain ⟨b1, b2⟩ := hv (j + 1) p q (by simpa using hp) (by simpa using hq)
                  exact ⟨b1, b2.ext r2⟩) hrest
              refine ⟨cs', ?_, by rw [putLoc_append]; exact a2, by rw [putLoc_append]; exact r2.trans a3, by rw [putLoc_append]; exact a4, fun d => by rw [putLoc_append, a5, fz_gen hst hs]⟩
              simp only [Instr.fill, h1, hcv, List.size_toArray]
              rw [if_neg (by
                have h5 : off + cy.length ≤ cs.size := by simpa using r5
                simp [hlen]; omega)]
              exact a1
            · cases h
          · cases h
        · cases h
      · cases h

theorem fl_place : ∀ {u : T} {l : List Field} {o : Nat} {i : Nat} {s : T}, (tys P u).fl l o → u.part i = some s → ∃ fi o2, l[i]? = some fi ∧ (tys P s).ty fi.type ∧ fi.offset = o + o2 ∧ u.off [u.step i] = some o2 ∧ u.valid [u.step i]
  | .cons a b, l, o, 0, s, ⟨f, l', e, h1, h2, h3, h4, h5⟩, hg => by
    cases hg
    exact ⟨f, 0, by simp [e], h4, by omega, off_nil _, valid_nil _⟩
  | .cons a b, l, o, i + 1, s, ⟨f, l', e, h1, h2, h3, h4, h5⟩, hg => by
    have hstep : b.step i = .f i := by
      cases b with
      | arr _ _ => exact h5.elim
      | _ => rfl
    obtain ⟨fi, o2, a1, a2, a3, a4, a5⟩ := fl_place (u := b) h5 hg
    rw [hstep] at a4 a5
    refine ⟨fi, a.csize + o2, by simp [e, a1], a2, by omega, ?_, a5⟩
    show (b.off [.f i]).map (a.csize + ·) = _
    rw [a4]; rfl
  | .nil, _, _, _, _, _, hg => by simp [T.part] at hg
  | .int, _, _, _, _, h, _ => h.elim
  | .bool, _, _, _, _, h, _ => h.elim
  | .sl _, _, _, _, _, h, _ => h.elim
  | .osl _, _, _, _, _, h, _ => h.elim
  | .ref _, _, _, _, _, h, _ => h.elim
  | .arr _ _, _, _, _, _, h, _ => h.elim
  | .fn _ _, _, _, _, _, h, _ => h.elim

theorem fl_sized : ∀ {u : T} {l : List Field} {o : Nat}, (tys P u).fl l o → ∀ f ∈ l, ∃ s, (tys P s).ty f.type
  | .cons a b, l, o, ⟨f, l', e, h1, h2, h3, h4, h5⟩, g, hg => by
    subst e
    rcases List.mem_cons.1 hg with rfl | hg
    · exact ⟨a, h4⟩
    · exact fl_sized h5 g hg
  | .nil, _, _, h, _, hg => by
    have h : _ = [] := h
    rw [h] at hg; simp at hg
  | .int, _, _, h, _, _ => h.elim
  | .bool, _, _, h, _, _ => h.elim
  | .sl _, _, _, h, _, _ => h.elim
  | .osl _, _, _, h, _, _ => h.elim
  | .ref _, _, _, h, _, _ => h.elim
  | .arr _ _, _, _, h, _, _ => h.elim
  | .fn _ _, _, _, h, _, _ => h.elim

theorem arr_place (n : Nat) (a : T) : PlaceOK (.arr n a) (fun i => some (i * a.csize, a.csize)) := by
  intro i s h
  have h : (match Nat.ble (i + 1) n with | true => some a | false => none) = some s := h
  split at h
  · rename_i hb
    cases h
    refine ⟨i * a.csize, rfl, ?_, Nat.le_of_ble_eq_true hb, valid_nil _⟩
    show (a.off []).map (i * a.csize + ·) = _
    rw [off_nil]; rfl
  · cases h

theorem run_places (w : World) : ∀ (l : List Field), (∀ f ∈ l, ∃ s, (tys P s).ty f.type) → ∃ r : List (Nat × Nat), (l.mapM (m := Sem) fun f => do pure (f.offset, ← sizeOf f.type)).run P w = .ok r w ∧ ∀ (i : Nat) (f : Field) (s : T), l[i]? = some f → (tys P s).ty f.type → r[i]? = some (f.offset, s.csize)
  | [], _ => ⟨[], rfl, fun i f s h => by simp at h⟩
  | f :: l, h => by
    obtain ⟨r, h1, h2⟩ := run_places w l (fun g hg => h g (by simp [hg]))
    obtain ⟨s, hs⟩ := h f (by simp)
    refine ⟨(f.offset, s.csize) :: r, ?_, ?_⟩
    · simp only [List.mapM_cons, Sem.run_bind, tys_size hs, Result.andThen_ok, Sem.run_pure, h1]
    · intro i g s' hg hs'
      cases i with
      | zero =>
        simp at hg
        subst hg
        have e1 := tys_size hs w
        have e2 := tys_size hs' w
        rw [e1] at e2
        have e3 : s.csize = s'.csize := by injection e2
        rw [← e3]; rfl
      | succ i => exact h2 i g s' (by simpa using hg) hs'

theorem zero_cells (P : Program) (w : World) {t : T} (hz : t.hasZero = true) : (mkV t (zeroCs t)).cells = (zeroCs t).toArray := mkV_cells (P := P) (w := w) (S := fun _ => True) (zeroCs_c hz)

theorem aBuild_ok (hk : Cok P cx) (hm : MRel P B G m w w0) (hs : Sub m' m) {t : TypeId} {l : List (Nat × V)} {e : Eff} (h : aBuild cx t m' l = some e) {vals : List (Nat × Value)} (hl : l.length = vals.length)
    (hv : ∀ (j : Nat) (p : Nat × V) (q : Nat × Value), l[j]? = some p → vals[j]? = some q → p.1 = q.1 ∧ ERep P B G m w p.2 q.2) :
    ∃ v w', (Instr.build t vals.toArray).run P w = .ok v w' ∧ Post P B w0 G m w e v w' := by
  unfold aBuild at h
  split at h
  · rename_i u hu
    have ht := hk.Θ _ _ hu
    split at h
    · rename_i hz
      rw [Bool.and_eq_true] at hz
      split at h
      · rename_i f x us hb
        cases h
        have hz2 := tys_zero ht hz.2 w
        have hc0 := zeroCs_c (P := P) (w := w) (S := dS B G m true) hz.2
        cases u with
        | nil =>
          obtain ⟨⟨fs, h1, h2⟩, _⟩ := ht
          have hfs : fs = #[] := by cases fs; simp_all
          have hp : PlaceOK .nil ((#[] : Array (Nat × Nat))[·]?) := fun i s h => by simp [T.part] at h
          obtain ⟨cs', a1, a2, a3, a4, a5⟩ := bld_spec hk hp l vals m m' true _ (zeroCs .nil).toArray f x us hm hs (by simpa using hc0) hl hv hb
          refine ⟨.agg cs', w, ?_, ⟨G, a2, a3, cs'.toList, by simp [mkV, T.agg], a4⟩⟩
          have b3 : (fs.mapM (m := Sem) fun f => do pure (f.offset, ← sizeOf f.type)).run P w = .ok #[] w := by rw [hfs, Array.mapM_eq_mapM_toList, Sem.run_map]; rfl
          simp only [Instr.build, Sem.run_bind, hz2, Result.andThen_ok, zero_cells P w hz.2, run_underlying h1, b3, a1]
          rfl
        | cons a b =>
          obtain ⟨⟨fs, h1, f0, l0, h2, h3, h4, h5, h6, h7⟩, _⟩ := ht
          have hfl : (tys P (.cons a b)).fl fs.toList 0 := ⟨f0, l0, h2, h3, h4, h5, h6, by rw [Nat.zero_add]; exact h7⟩
          obtain ⟨r, b1, b2⟩ := run_places w fs.toList (fl_sized hfl)
          have hp : PlaceOK (.cons a b) (r.toArray[·]?) := fun i s hps => by
            obtain ⟨fi, o2, c1, c2, c3, c4, c5⟩ := fl_place hfl hps
            refine ⟨o2, ?_, c4, c5⟩
            have := b2 i fi s c1 c2
            simp [this, c3]
          obtain ⟨cs', a1, a2, a3, a4, a5⟩ := bld_spec hk hp l vals m m' true _ (zeroCs (.cons a b)).toArray f x us hm hs (by simpa using hc0) hl hv hb
          refine ⟨.agg cs', w, ?_, ⟨G, a2, a3, cs'.toList, by simp [mkV, T.agg], a4⟩⟩
          have b3 : (fs.mapM (m := Sem) fun f => do pure (f.offset, ← sizeOf f.type)).run P w = .ok r.toArray w := by
            rw [Array.mapM_eq_mapM_toList, Sem.run_map, b1]; rfl
          simp only [Instr.build, Sem.run_bind, hz2, Result.andThen_ok, zero_cells P w hz.2, run_underlying h1, b3, a1]
          rfl
        | arr n a =>
          obtain ⟨et, h1, h2⟩ := ty_arr ht
          obtain ⟨cs', a1, a2, a3, a4, a5⟩ := bld_spec hk (arr_place n a) l vals m m' true _ (zeroCs (.arr n a)).toArray f x us hm hs (by simpa using hc0) hl hv hb
          refine ⟨.agg cs', w, ?_, ⟨G, a2, a3, cs'.toList, by simp [mkV, T.agg], a4⟩⟩
          simp only [Instr.build, Sem.run_bind, hz2, Result.andThen_ok, zero_cells P w hz.2, run_underlying h1, tys_size h2, a1]
          rfl
        | _ => simp [T.agg] at hz
      · cases h
    · cases h
  · cases h

theorem range_cycle (z : List Value) (hz : 0 < z.length) : ∀ n, (List.range (n * z.length)).map (fun j => z.toArray[j % z.toArray.size]!) = (List.replicate n z).flatten
  | 0 => by simp
  | n + 1 => by
    have ih := range_cycle z hz n
    rw [Nat.add_mul, Nat.one_mul, Nat.add_comm, List.range_add, List.map_append, List.map_map, List.replicate_succ, List.flatten_cons, ← ih]
    congr 1
    · apply List.ext_getElem?
      intro j
      by_cases hj : j < z.length
      · simp [hj, Nat.mod_eq_of_lt hj]
      · simp [hj, List.getElem?_eq_none (Nat.le_of_not_lt hj)]
    · apply List.map_congr_left
      intro j _
      simp

theorem zero_row (P : Program) (w : World) (a : T) (hz : a.hasZero = true) (n : Nat) : ((Array.range (n * a.csize)).map ((if n * a.csize = 0 then #[] else (zeroCs a).toArray)[· % (if n * a.csize = 0 then #[] else (zeroCs a).toArray).size]!)).toList = (List.replicate n (zeroCs a)).flatten := by
  have hl : (zeroCs a).length = a.csize := c_len (P := P) (w := w) (S := fun _ => True) a (zeroCs_c hz)
  by_cases h0 : n * a.csize = 0
  · have : (List.replicate n (zeroCs a)).flatten = [] := by
      rcases Nat.mul_eq_zero.1 h0 with h | h
      · simp [h]
      · rw [h] at hl; simp [List.eq_nil_of_length_eq_zero hl]
    rw [this, h0]
    simp
  · have hpos : 0 < (zeroCs a).length := by rw [hl]; exact Nat.pos_of_ne_zero (fun h => h0 (by rw [h, Nat.mul_zero]))
    rw [← range_cycle (zeroCs a) hpos n]
    simp [h0, hl]

theorem aBuildSlice_ok (hk : Cok P cx) (hm : MRel P B G m w w0) (hs : Sub m' m) {t : TypeId} {len : Nat} {dst : Option Nat} {l : List (Nat × V)} {e : Eff} (hd : ∀ d, dst = some d → m' d = m d) (h : aBuildSlice cx t len dst m' l = some e) {vals : List (Nat × Value)} (hl : l.length = vals.length)
    (hv : ∀ (j : Nat) (p : Nat × V) (q : Nat × Value), l[j]? = some p → vals[j]? = some q → p.1 = q.1 ∧ ERep P B G m w p.2 q.2) :
    ∃ v w', (Instr.buildSlice t len vals.toArray).run P w = .ok v w' ∧ Post P B w0 G m w e v w' := by
  unfold aBuildSlice at h
  split at h
  · rename_i d a ht
    obtain ⟨et, h1, h2⟩ := ty_sl (hk.Θ _ _ ht)
    split at h
    · rename_i hz
      simp only [Bool.and_eq_true] at hz
      obtain ⟨⟨hz, hle⟩, hle2⟩ := hz
      have hle := Nat.le_of_ble_eq_true hle
      have hle2 := Nat.le_of_ble_eq_true hle2
      split at h
      · rename_i f xs us hb
        cases h
        have hc0 : (reps P (.arr len a)).c w (dS B G m true) (List.replicate len a.dflt) (List.replicate len (zeroCs a)).flatten := ⟨by simp, repL_replicate (zeroCs_c hz) len⟩
        have hrow := zero_row P w a hz len
        obtain ⟨cs', a1, a2, a3, a4, a5⟩ := bld_spec hk (arr_place len a) l vals m m' true _ ((Array.range (len * a.csize)).map ((if len * a.csize = 0 then #[] else (zeroCs a).toArray)[· % (if len * a.csize = 0 then #[] else (zeroCs a).toArray).size]!)) f xs us hm hs (by rw [hrow]; exact hc0) hl hv hb
        have hlen := c_len (.arr len a) a4
        obtain ⟨hn, a4⟩ := a4
        have hn : xs.length = len := hn
        refine ⟨.slice (some ⟨w.heap.size, 0, none⟩) len len, w.alloc (.cells cs' et), ?_, Post.seq a3 (sl_post a2 (by rw [a5]; exact nx_eq (hd d rfl)) (below_alloc w _) (ob := some (w.heap.size, 0)) (fun b o e => by cases e; exact Nat.le_refl _) ?_)⟩
        · simp only [Instr.buildSlice, Sem.run_bind, run_underlying h1, Result.andThen_ok, tys_size h2]
          rw [if_neg (by omega)]
          by_cases h0 : len * a.csize = 0
          · rw [if_pos h0] at a1 ⊢
            simp only [Sem.run_bind, Sem.run_pure, Result.andThen_ok, a1]
            rfl
          · rw [if_neg h0] at a1 ⊢
            simp only [Sem.run_bind, Sem.run_pure, tys_zero h2 hz, zero_cells P w hz, Result.andThen_ok, a1]
            rfl
        · refine .inr ⟨w.heap.size, 0, len, cs', et, rfl, by rw [hn], trivial, heap_alloc_new w _, by omega, by rw [hn]; omega, ?_, ?_⟩
          · have : cs'.toList.length = len * a.csize := hlen
            rw [Array.length_toList] at this
            omega
          · rw [List.drop_zero, List.take_of_length_le (by rw [hlen, hn]; exact Nat.le_refl _)]
            exact a4
      · cases h
    · cases h
  · cases h

theorem nl_post (hm : MRel P B G m w w0) {d g : Nat} (hg : g = nx m d) {f : Bool} {t : T} {N : Nat} {w' : World} (hb : Below w.heap.size w w') {v : Value} {ob : Option (Nat × Nat)} (hob : ∀ b o, ob = some (b, o) → w.heap.size ≤ b)
    (hown : repOwn (fun u cs => cs = [u]) 1 w' (fun _ => True) (List.replicate N (.slice none 0 0)) v ob) {p : Prop} : Post P B w0 G m w ⟨p, .own d g, [(d, g, .nl f t (List.replicate N []) 0 none)]⟩ v w' := by
  subst hg
  have hch := Chg.new (B := B) (G := G) (m := m) d ⟨v, ob, fun _ => .slice none 0 0, fun _ => none, fun _ => False, fun _ => False⟩ (.nl f t (List.replicate N []) 0 none) hb (fun b e => by
    rcases e with ⟨o, e⟩ | ⟨n, o, e⟩
    · exact hob b o e
    · cases e)
  have he := hch.ext hm
  refine ⟨_, hch.rel hm ?_, he, ⟨_, _, set1_same .., Nat.le_refl _, fun _ => by rw [setG_same]; rfl⟩⟩
  unfold LRep
  rw [setG_same]
  refine ⟨List.replicate N (.slice none 0 0), ?_, by simp, fun n u hu => .inl (List.eq_of_mem_replicate (List.mem_of_getElem? hu)), fun n xs hx _ => .inl ⟨rfl, List.eq_of_mem_replicate (List.mem_of_getElem? hx), rfl⟩, fun _ _ => rfl, fun _ _ _ _ _ e => (by cases e), fun _ _ _ _ e => (by cases e)⟩
  rcases hown with h | ⟨b, off, cap, cur, e, h1, h2, h3, h4⟩
  · exact .inl h
  · exact .inr ⟨b, off, cap, cur, e, h1, h2, Nat.le_trans hm.base (hob b off h1), h4⟩

theorem aBoxN_ok (hk : Cok P cx) (hm : MRel P B G m w w0) {i : TypeId} {dst : Option Nat} {a : V} {e : Eff} (hd : ∀ d, dst = some d → m' d = m d) (h : aBoxN cx i dst m' a = some e) {va : Value} (hv : ERep P B G m w a va) :
    ∃ v w', (Instr.box i va).run P w = .ok v w' ∧ Post P B w0 G m w e v w' := by
  unfold aBoxN at h
  split at h
  · rename_i d b ht
    cases h
    have hv : va = .slice none 0 0 := hv
    subst hv
    have hrun : (newVar i (.slice none 0 0)).run P w = .ok ⟨w.heap.size, 0, none⟩ (w.alloc (.cells #[.slice none 0 0] i)) := by
      simp [newVar, newRow, Value.cells]
    have hown : repOwn (fun u cs => cs = [u]) 1 (w.alloc (.cells #[.slice none 0 0] i)) (fun _ => True) (List.replicate 1 (.slice none 0 0)) (.slice (some ⟨w.heap.size, 0, none⟩) 1 1) (some (w.heap.size, 0)) :=
      .inr ⟨w.heap.size, 0, 1, _, i, rfl, rfl, trivial, heap_alloc_new w _, by simp, by simp, by simp, ⟨[.slice none 0 0], [], by simp, rfl, rfl⟩⟩
    obtain ⟨G', r1, r2, r3⟩ := nl_post (P := P) (B := B) (G := G) (w0 := w0) (f := true) (t := b) hm (nx_eq (hd d rfl)) (below_alloc w _) (fun b o e => by cases e; exact Nat.le_refl _) hown (p := True)
    refine ⟨.pointer (some ⟨w.heap.size, 0, none⟩), w.alloc (.cells #[.slice none 0 0] i), by simp [Instr.box, hrun], G', r1, r2, ?_⟩
    obtain ⟨g1, l1, e1, e2, e3⟩ := r3
    have e0 : putLoc m [(d, nx m' d, Tk.L.nl true b (List.replicate 1 []) 0 none)] d = some (nx m' d, .nl true b (List.replicate 1 []) 0 none) := set1_same ..
    refine ⟨_, _, e0, Nat.le_refl _, fun _ => ?_⟩
    have e1' : putLoc m [(d, nx m' d, Tk.L.nl true b (List.replicate 1 []) 0 none)] d = some (g1, l1) := e1
    rw [e0] at e1'
    cases e1'
    have hh : Value.slice (some ⟨w.heap.size, 0, none⟩) 1 1 = (G' d).hdr := e3 rfl
    obtain ⟨vs, q1, _⟩ := r1.loc d _ _ e0
    rcases q1 with ⟨q, _⟩ | ⟨b1, off, cap, cur, ee, q2, q3, _⟩
    · rw [← hh] at q; cases q
    · rw [← hh] at q3
      injection q3 with q3 _ _
      cases q3
      exact ⟨w.heap.size, 0, 0, rfl, by simp, q2, rfl⟩
  · cases h

theorem aMakeSlice_ok (hk : Cok P cx) (hm : MRel P B G m w w0) {t : TypeId} {dst : Option Nat} {l c : V} {e : Eff} (hd : ∀ d, dst = some d → m' d = m d) (h : aMakeSlice cx t dst m' l c = some e) (hpre : e.pre) {vl vc : Value} (hvl : ERep P B G m w l vl) (hvc : ERep P B G m w c vc) :
    ∃ v w', (Instr.makeSlice t vl vc).run P w = .ok v w' ∧ Post P B w0 G m w e v w' := by
  unfold aMakeSlice at h
  split at h
  · rename_i d a f1 n f2 k ht
    change Int at n
    change Int at k
    obtain ⟨et, h1, h2⟩ := ty_sl (hk.Θ _ _ ht)
    split at h
    · rename_i hz
      obtain ⟨rfl, _⟩ := int_val hvl
      obtain ⟨rfl, _⟩ := int_val hvc
      have hpre' : mkLen n k := by
        split at h
        · split at h
          · cases h; exact hpre
          · cases h
        · cases h; exact hpre
      obtain ⟨p1, p2, p3⟩ : 0 ≤ n ∧ n ≤ 4294967296 ∧ n = k := hpre'
      subst p3
      obtain ⟨fi, i1, i2, i3, i4⟩ := tys_info h2
      obtain ⟨z, i5, i6⟩ := i4 hz
      have hby : (fi.bytes : Int) * n ≤ 281474976710656 := by
        have : (fi.bytes : Int) * n ≤ 16384 * 4294967296 := Int.mul_le_mul (by omega) p2 p1 (by omega)
        omega
      have hr := run_make (P := P) w t et fi z h1 i1 i5 .i64 .i64 n n p1 (Int.le_refl _) hby (by omega)
      have hl : (zeroCs a).length = a.csize := c_len (P := P) (w := w) (S := fun _ => True) a (zeroCs_c hz)
      have e1 : (madeCells z.cells (n.toNat * fi.size)).toList = (List.replicate n.toNat (zeroCs a)).flatten := by
        rw [i6, zero_cells P w hz, i2]
        have hrow := zero_row P w a hz n.toNat
        by_cases h0 : n.toNat * a.csize = 0
        · rw [← hrow]; simp [madeCells, h0]
        · rw [← hrow]; simp [madeCells, h0]
      have e2 : (List.replicate n.toNat (zeroCs a)).flatten.length = n.toNat * a.csize := by simp [hl]
      split at h
      · split at h
        · rename_i b
          cases h
          refine ⟨_, _, hr, nl_post hm (nx_eq (hd d rfl)) (below_alloc w _) (ob := some (w.heap.size, 0)) (fun b o e => by cases e; exact Nat.le_refl _) ?_⟩
          refine .inr ⟨w.heap.size, 0, n.toNat, _, et, rfl, by simp, trivial, heap_alloc_new w _, by simp, by simp; omega, ?_, ?_⟩
          · simp [size_madeCells, i2, T.csize]
          · rw [List.drop_zero, e1, List.take_of_length_le (by rw [e2]; simp [T.csize])]
            exact repL_replicate (R := fun u cs => cs = [u]) rfl _
        · cases h
      · cases h
        refine ⟨_, _, hr, sl_post hm (nx_eq (hd d rfl)) (below_alloc w _) (ob := some (w.heap.size, 0)) (fun b o e => by cases e; exact Nat.le_refl _) ?_⟩
        refine .inr ⟨w.heap.size, 0, n.toNat, _, et, rfl, by simp, trivial, heap_alloc_new w _, by simp, by simp; omega, ?_, ?_⟩
        · simp [size_madeCells, i2]
        · rw [List.drop_zero, e1, List.take_of_length_le (by rw [e2]; simp)]
          exact repL_replicate (zeroCs_c hz) _
    · cases h
  · cases h

end

end Go.Tk
