/- The engine, part G: the operations that reckon addresses do what their abstract twins say. No conditions. -/
import Derived.Test.YtmedjckknalpbaaEngF
namespace Go.Tk
open Go Go.RowKit

theorem valid_nil (t : T) : t.valid [] := by cases t <;> trivial

theorem off_app : ∀ (t : T) (x : t.den) (p q : List Stp) (s : T) (y : s.den) (o o2 : Nat), t.get x p = some ⟨s, y⟩ → t.off p = some o → t.valid p → s.off q = some o2 → s.valid q → t.off (p ++ q) = some (o + o2) ∧ t.valid (p ++ q) := by
  intro t
  have base : ∀ (t : T) (x : t.den) (q : List Stp) (s : T) (y : s.den) (o o2 : Nat), (some ⟨t, x⟩ : Option (Σ t : T, t.den)) = some ⟨s, y⟩ → t.off [] = some o → s.off q = some o2 → s.valid q → t.off q = some (o + o2) ∧ t.valid q := by
    intro t x q s y o o2 hg ho h1 h2
    cases hg
    rw [off_nil] at ho; cases ho
    rw [Nat.zero_add]; exact ⟨h1, h2⟩
  induction t with
  | cons a b iha ihb =>
    intro x p q s y o o2 hg ho hv h1 h2
    cases p with
    | nil => exact base (.cons a b) x q s y o o2 (by simpa [T.get] using hg) ho h1 h2
    | cons st p =>
      cases st with
      | i n => simp [T.get] at hg
      | f i =>
        cases i with
        | zero => exact iha x.1 p q s y o o2 hg ho hv h1 h2
        | succ i =>
          simp only [T.off, Option.map_eq_some_iff] at ho
          obtain ⟨o', ho', rfl⟩ := ho
          obtain ⟨r1, r2⟩ := ihb x.2 (.f i :: p) q s y o' o2 hg ho' hv h1 h2
          refine ⟨?_, r2⟩
          show (b.off (.f i :: p ++ q)).map (a.csize + ·) = _
          rw [r1]; simp [Nat.add_assoc]
  | arr n a iha =>
    intro x p q s y o o2 hg ho hv h1 h2
    cases p with
    | nil => exact base (.arr n a) x q s y o o2 (by simpa [T.get] using hg) ho h1 h2
    | cons st p =>
      cases st with
      | f i => simp [T.get] at hg
      | i k =>
        simp only [T.off, Option.map_eq_some_iff] at ho
        obtain ⟨o', ho', rfl⟩ := ho
        obtain ⟨r1, r2⟩ := iha _ p q s y o' o2 hg ho' hv.2 h1 h2
        refine ⟨?_, hv.1, r2⟩
        show (a.off (p ++ q)).map (k * a.csize + ·) = _
        rw [r1]; simp [Nat.add_assoc]
  | int => intro x p q s y o o2 hg ho hv h1 h2; cases p with
    | nil => exact base .int x q s y o o2 (by simpa [T.get] using hg) ho h1 h2
    | cons st p => simp [T.get] at hg
  | bool => intro x p q s y o o2 hg ho hv h1 h2; cases p with
    | nil => exact base .bool x q s y o o2 (by simpa [T.get] using hg) ho h1 h2
    | cons st p => simp [T.get] at hg
  | nil => intro x p q s y o o2 hg ho hv h1 h2; cases p with
    | nil => exact base .nil x q s y o o2 (by simpa [T.get] using hg) ho h1 h2
    | cons st p => simp [T.get] at hg
  | sl a _ => intro x p q s y o o2 hg ho hv h1 h2; cases p with
    | nil => exact base (.sl a) x q s y o o2 (by simpa [T.get] using hg) ho h1 h2
    | cons st p => simp [T.get] at hg
  | osl a _ => intro x p q s y o o2 hg ho hv h1 h2; cases p with
    | nil => exact base (.osl a) x q s y o o2 (by simpa [T.get] using hg) ho h1 h2
    | cons st p => simp [T.get] at hg
  | ref a _ => intro x p q s y o o2 hg ho hv h1 h2; cases p with
    | nil => exact base (.ref a) x q s y o o2 (by simpa [T.get] using hg) ho h1 h2
    | cons st p => simp [T.get] at hg
  | fn a r _ _ => intro x p q s y o o2 hg ho hv h1 h2; cases p with
    | nil => exact base (.fn a r) x q s y o o2 (by simpa [T.get] using hg) ho h1 h2
    | cons st p => simp [T.get] at hg
  | nsl a _ => intro x p q s y o o2 hg ho hv h1 h2; cases p with
    | nil => exact base (.nsl a) x q s y o o2 (by simpa [T.get] using hg) ho h1 h2
    | cons st p => simp [T.get] at hg
  | seq fr a _ => intro x p q s y o o2 hg ho hv h1 h2; cases p with
    | nil => exact base (.seq fr a) x q s y o o2 (by simpa [T.get] using hg) ho h1 h2
    | cons st p => simp [T.get] at hg

section
variable {P : Program} {B : Bs} {G : Nat → Gh} {m m' : Mem} {w w0 : World} {cx : Cx}

/-- A field of a struct type of the program. -/
theorem fl_field : ∀ {u : T} {l : List Field} {o : Nat} {i : Nat} {y : u.den} {r : T} {z : r.den}, (tys P u).fl l o → u.get y [.f i] = some ⟨r, z⟩ → ∃ fi o2, l[i]? = some fi ∧ u.off [.f i] = some o2 ∧ fi.offset = o + o2 ∧ (tys P r).ty fi.type ∧ r.csize ≠ 0 ∧ u.valid [.f i]
  | .cons a b, l, o, 0, y, r, z, ⟨f, l', e, h1, h2, h3, h4, h5⟩, hg => by
    have hg' : a.get y.1 [] = some ⟨r, z⟩ := hg
    have : (⟨a, y.1⟩ : Σ t : T, t.den) = ⟨r, z⟩ := by
      have e2 : a.get y.1 [] = some ⟨a, y.1⟩ := by cases a <;> rfl
      rw [e2] at hg'; exact Option.some.inj hg'
    cases this
    exact ⟨f, 0, by simp [e], off_nil a, by omega, h4, h2, valid_nil a⟩
  | .cons a b, l, o, i + 1, y, r, z, ⟨f, l', e, h1, h2, h3, h4, h5⟩, hg => by
    obtain ⟨fi, o2, a1, a2, a3, a4, a5, a6⟩ := fl_field (u := b) (y := y.2) h5 hg
    refine ⟨fi, a.csize + o2, by simp [e, a1], ?_, by omega, a4, a5, a6⟩
    show (b.off [.f i]).map (a.csize + ·) = _
    rw [a2]; rfl
  | .nil, _, _, _, _, _, _, _, hg => by simp [T.get] at hg
  | .int, _, _, _, _, _, _, h, _ => h.elim
  | .bool, _, _, _, _, _, _, h, _ => h.elim
  | .sl _, _, _, _, _, _, _, h, _ => h.elim
  | .osl _, _, _, _, _, _, _, h, _ => h.elim
  | .ref _, _, _, _, _, _, _, h, _ => h.elim
  | .arr _ _, _, _, _, _, _, _, h, _ => h.elim
  | .fn _ _, _, _, _, _, _, _, h, _ => h.elim

theorem ty_field {u : T} {s : TypeId} {i : Nat} {y : u.den} {r : T} {z : r.den} (h : (tys P u).ty s) (hg : u.get y [.f i] = some ⟨r, z⟩) :
    ∃ fs fi o2, P.underlying s = some (.struct fs) ∧ fs[i]? = some fi ∧ u.off [.f i] = some o2 ∧ fi.offset = o2 ∧ (tys P r).ty fi.type ∧ r.csize ≠ 0 ∧ u.valid [.f i] := by
  cases u with
  | cons a b =>
    obtain ⟨⟨fs, h1, f, l, h2, h3, h4, h5, h6, h7⟩, _⟩ := h
    obtain ⟨fi, o2, a1, a2, a3, a4, a5, a6⟩ := fl_field (P := P) (u := .cons a b) (l := f :: l) (o := 0) (y := y) (i := i) ⟨f, l, rfl, h3, h4, h5, h6, by rw [Nat.zero_add]; exact h7⟩ hg
    exact ⟨fs, fi, o2, h1, by rw [← h2] at a1; simpa using a1, a2, by omega, a4, a5, a6⟩
  | _ => simp [T.get] at hg

theorem ptr_app (hs : Sub m' m) {k g : Nat} {p q : List Stp} {f : Bool} {s : T} {y : s.den} (h : mget m' k g p = some (f, ⟨s, y⟩)) {o2 : Nat} (h1 : s.off q = some o2) (h2 : s.valid q) {b o : Nat} (hv : ERep P B G m w (.ptr k g p) (.pointer (some ⟨b, o, none⟩))) :
    ERep P B G m w (.ptr k g (p ++ q)) (.pointer (some ⟨b, o + o2, none⟩)) := by
  obtain ⟨g', l, hk, hle, hv⟩ := hv
  refine ⟨g', l, hk, hle, fun eg => ?_⟩
  have hp := hv eg
  unfold mget at h
  split at h
  · rename_i g2 l2 e2
    have := hs _ _ e2
    rw [hk] at this; cases this
    split at h
    · split at h
      · rename_i f2 s2 x2
        split at h
        · rename_i r hr
          cases h
          obtain ⟨b', o', h6, h7, h8, h9⟩ := hp
          cases h9
          obtain ⟨r1, r2⟩ := off_app _ _ p q s y o o2 hr h7 h8 h1 h2
          exact ⟨b, _, h6, r1, r2, rfl⟩
        · cases h
      · rename_i f2 s2 xs2
        split at h
        · rename_i n p'
          split at h
          · rename_i r hr
            cases h
            obtain ⟨b', off, o', n', p2, h6, h7, h8, h9, h10, h11⟩ := hp
            cases h6; cases h11
            obtain ⟨r1, r2⟩ := off_app _ _ p' q s y o' o2 hr h9 h10 h1 h2
            exact ⟨b, off, _, n, p' ++ q, rfl, h7, h8, r1, r2, by simp [Nat.add_assoc]⟩
          · cases h
        · cases h
      · split at h
        · cases h
          obtain ⟨b', o', a1, a2, a3, a4⟩ := hp
          rw [off_nil] at a2; cases a2; cases a4
          exact ⟨b, o2, a1, by simpa using h1, by simpa using h2, by simp⟩
        · cases h
      · cases h
    · cases h
  · cases h

theorem cellsAt_sub {b o : Nat} {cs : List Value} (h : cellsAt w b o cs) (k n : Nat) : cellsAt w b (o + k) ((cs.drop k).take n) := by
  intro j v hv
  rw [List.getElem?_take] at hv
  split at hv
  · rw [List.getElem?_drop] at hv
    have := h (k + j) v hv
    rwa [← Nat.add_assoc] at this
  · cases hv

theorem run_fieldAt {s : TypeId} {i : Nat} {fs : Array Field} {fi : Field} {r : T} (h1 : P.underlying s = some (.struct fs)) (h2 : fs[i]? = some fi) (h3 : (tys P r).ty fi.type) (h4 : r.csize ≠ 0) (b o : Nat) :
    (Instr.fieldAt s (.pointer (some ⟨b, o, none⟩)) i).run P w = .ok (.pointer (some ⟨b, o + fi.offset, none⟩)) w := by
  simp [Instr.fieldAt, run_underlying h1, h2, Instr.sureAddr, fieldPlace, tys_size h3, h4, addr_add]

theorem aFieldAddr_ok (hk : Cok P cx) (hm : MRel P B G m w w0) (hs : Sub m' m) {s : TypeId} {i : Nat} {a : V} {e : Eff} (h : aFieldAddr cx s i m' a = some e) {va : Value} (hv : ERep P B G m w a va) :
    ∃ v w', (Instr.fieldAt s va i).run P w = .ok v w' ∧ Post P B w0 G m w e v w' := by
  unfold aFieldAddr at h
  split at h
  · cases h
  · rename_i u hu
    have ht := hk.Θ _ _ hu
    split at h
    · rename_i k g p
      split at h
      · rename_i f s' y hg
        split at h
        · rename_i hb
          obtain rfl := T.beq_eq hb
          split at h
          · rename_i r hr
            obtain ⟨r, z⟩ := r
            cases h
            obtain ⟨fs, fi, o2, a1, a2, a3, a4, a5, a6, a7⟩ := ty_field ht hr
            obtain ⟨b, o, cs, rfl, _, _⟩ := mget_spec hm hs hg hv
            refine ⟨_, w, run_fieldAt a1 a2 a5 a6 b o, Post.eff hm ?_⟩
            rw [a4]
            exact ptr_app hs hg a3 a7 hv
          · cases h
        · cases h
      · cases h
    · rename_i f s' y
      split at h
      · rename_i hb
        obtain rfl := T.beq_eq hb
        split at h
        · rename_i r z hr
          cases h
          obtain ⟨fs, fi, o2, a1, a2, a3, a4, a5, a6, a7⟩ := ty_field ht hr
          obtain ⟨b, o, cs, rfl, h1, h2, h3, h4⟩ := hv
          refine ⟨_, w, run_fieldAt a1 a2 a5 a6 b o, Post.eff hm ?_⟩
          obtain ⟨r1, r2⟩ := get_c _ _ _ _ _ _ hr a3 a7 h4
          rw [a4]
          exact ⟨b, _, _, rfl, h1, h2, cellsAt_sub h3 o2 _, r1⟩
        · cases h
      · cases h
    · cases h

theorem run_part {t : T} {i : TypeId} (ht : (tys P t).ty i) {y : t.den} {S : Nat → Prop} {cs : Array Value} {off : Nat} (hc : (reps P t).c w S y ((cs.toList.drop off).take t.csize)) : (part i cs off).run P w = .ok (mkV t ((cs.toList.drop off).take t.csize)) w := by
  have hl := c_len t hc
  unfold part
  rw [Sem.run_bind, tys_agg ht]
  unfold mkV
  cases ha : t.agg
  · have hs : t.csize = 1 := by cases t <;> simp_all [T.agg, T.csize]
    rw [hs] at hl ⊢
    cases hq : cs[off]? with
    | none =>
      rw [Array.getElem?_eq_none_iff] at hq
      rw [List.length_take, List.length_drop, Array.length_toList] at hl
      omega
    | some v =>
      have hlt : off < cs.size := (Array.getElem?_eq_some_iff.1 hq).1
      have hvv : cs[off] = v := (Array.getElem?_eq_some_iff.1 hq).2
      have : cs.toList.drop off = v :: cs.toList.drop (off + 1) := by
        rw [List.drop_eq_getElem_cons (by simpa using hlt)]
        congr 1
      simp [this]
  · have e : cs.extract off (off + t.csize) = ((cs.toList.drop off).take t.csize).toArray := by
      apply Array.ext'
      simp
    simp [tys_size ht, e]

theorem aField_ok (hk : Cok P cx) (hm : MRel P B G m w w0) {s : TypeId} {i : Nat} {a : V} {e : Eff} (h : aField cx s i a = some e) {va : Value} (hv : ERep P B G m w a va) :
    ∃ v w', (Instr.field s va i).run P w = .ok v w' ∧ Post P B w0 G m w e v w' := by
  unfold aField at h
  split at h
  · cases h
  · rename_i u hu
    have ht := hk.Θ _ _ hu
    split at h
    · rename_i f s' y
      split at h
      · rename_i hb
        obtain rfl := T.beq_eq hb
        split at h
        · rename_i r z hr
          cases h
          obtain ⟨fs, fi, o2, a1, a2, a3, a4, a5, a6, a7⟩ := ty_field ht hr
          obtain ⟨cs, rfl, h4⟩ := hv
          obtain ⟨r1, r2⟩ := get_c _ _ _ _ _ _ hr a3 a7 h4
          have hagg : s'.agg = true := by cases s' <;> simp_all [T.get, T.agg]
          have hp := run_part (P := P) (w := w) a5 (cs := cs.toArray) (off := o2) (by simpa using r1)
          refine ⟨_, w, ?_, Post.eff hm ⟨_, rfl, r1⟩⟩
          simp only [mkV, hagg, if_true, Instr.field, Sem.run_bind, run_underlying a1, Result.andThen_ok, a2, asAgg, Sem.run_pure, a4, hp]
        · cases h
      · cases h
    · cases h

theorem int_val {f : Bool} {n : Int} {v : Value} (h : ERep P B G m w (.d f .int n) v) : v = .int .i64 n ∧ inI n := by
  obtain ⟨cs, e, h1, h2⟩ := h
  rw [e, h1]; exact ⟨rfl, h2⟩

theorem bool_val {f : Bool} {n : Bool} {v : Value} (h : ERep P B G m w (.d f .bool n) v) : v = .bool n := by
  obtain ⟨cs, e, h1⟩ := h
  have h1 : cs = [.bool n] := h1
  rw [e, h1]; rfl

theorem int_rep {f : Bool} {n : Int} (h : inI n) : ERep P B G m w (.d f .int n) (.int .i64 n) := ⟨_, rfl, rfl, h⟩
theorem bool_rep {f : Bool} {n : Bool} : ERep P B G m w (.d f .bool n) (.bool n) := ⟨_, rfl, rfl⟩

theorem ty_sl {a : T} {t : TypeId} (h : (tys P (.sl a)).ty t) : ∃ e, P.underlying t = some (.slice e) ∧ (tys P a).ty e := h.1
theorem ty_arr {n : Nat} {a : T} {t : TypeId} (h : (tys P (.arr n a)).ty t) : ∃ e, P.underlying t = some (.array n e) ∧ (tys P a).ty e := h.1

theorem run_index_sl {t e : TypeId} {a : T} (h1 : P.underlying t = some (.slice e)) (h2 : (tys P a).ty e) {b off len cap : Nat} {n : Int} (h0 : 0 ≤ n) (hn : n < len) :
    (Instr.indexAt t (.slice (some ⟨b, off, none⟩) len cap) (.int .i64 n)).run P w = .ok (.pointer (some ⟨b, off + n.toNat * a.csize, none⟩)) w := by
  simp [Instr.indexAt, asIntOf, run_underlying h1, h0, hn, tys_size h2, addr_add]

theorem run_index_arr {t e : TypeId} {a : T} {l : Nat} (h1 : P.underlying t = some (.array l e)) (h2 : (tys P a).ty e) {b off : Nat} {n : Int} (h0 : 0 ≤ n) (hn : n < l) :
    (Instr.indexAt t (.pointer (some ⟨b, off, none⟩)) (.int .i64 n)).run P w = .ok (.pointer (some ⟨b, off + n.toNat * a.csize, none⟩)) w := by
  simp [Instr.indexAt, asIntOf, run_underlying h1, Instr.sureAddr, h0, hn, tys_size h2, addr_add]

/-- An element of a slice that is data. -/
theorem sl_elem {f : Bool} {a : T} {xs : List a.den} {v : Value} (h : repSl ((reps P a).c w (dS B G m f)) w (dS B G m f) xs v) {n : Int} (h0 : 0 ≤ n) (hn : n < xs.length) :
    ∃ b off cap, v = .slice (some ⟨b, off, none⟩) xs.length cap ∧ ERep P B G m w (.ept f a (xs.getD n.toNat a.dflt)) (.pointer (some ⟨b, off + n.toNat * a.csize, none⟩)) := by
  obtain ⟨ao, cap, e, _, _, h⟩ := h
  rcases h with rfl | ⟨b, off, cs, rfl, h1, h2, h3, h4⟩
  · simp at hn; omega
  · refine ⟨b, off, cap, e, b, _, _, rfl, h1, h2, cellsAt_sub h3 _ _, repL_get (fun x cs h => c_len (P := P) a h) _ _ h4 _ _ (getD_of_lt ?_)⟩
    omega

theorem aIndexAddr_ok (hk : Cok P cx) (hm : MRel P B G m w w0) (hs : Sub m' m) {t : TypeId} {x i : V} {e : Eff} (h : aIndexAddr cx t m' x i = some e) (hpre : e.pre) {vx vi : Value} (hx : ERep P B G m w x vx) (hi : ERep P B G m w i vi) :
    ∃ v w', (Instr.indexAt t vx vi).run P w = .ok v w' ∧ Post P B w0 G m w e v w' := by
  unfold aIndexAddr at h
  split at h
  · rename_i f0 n
    change Int at n
    obtain ⟨rfl, _⟩ := int_val hi
    split at h
    · rename_i a ht
      obtain ⟨et, h1, h2⟩ := ty_sl (hk.Θ _ _ ht)
      split at h
      · rename_i f b xs
        split at h
        · rename_i hb
          cases h
          obtain rfl := T.beq_eq hb
          obtain ⟨cs, rfl, v, rfl, hsl⟩ := hx
          obtain ⟨bb, off, cap, e1, e2⟩ := sl_elem hsl hpre.1 hpre.2
          refine ⟨_, w, ?_, Post.eff hm e2⟩
          show (Instr.indexAt t v _).run P w = _
          rw [e1]; exact run_index_sl h1 h2 hpre.1 hpre.2
        · cases h
      · rename_i k g
        obtain ⟨g1, l, hkk, hle, hx⟩ := hx
        split at h
        · rename_i g2 f b xs e2
          have := hs _ _ e2
          rw [hkk] at this; cases this
          split at h
          · rename_i hb
            rw [Bool.and_eq_true] at hb
            cases h
            obtain rfl := T.beq_eq hb.2
            have hg := Nat.eq_of_beq_eq_true hb.1
            have hh := hx hg
            rcases hm.loc k _ _ hkk with ⟨_, hn, _⟩ | ⟨bb, off, cap, cur, ee, a1, a2, a3⟩
            · subst hn
              have hp : 0 ≤ n ∧ n < (([] : List b.den).length : Int) := hpre
              simp at hp; omega
            · rw [hh]
              simp only [hdrOf, a2]
              refine ⟨_, w, run_index_sl h1 h2 hpre.1 hpre.2, Post.eff hm ⟨_, _, hkk, hle, fun _ => ⟨bb, off, 0, n.toNat, [], rfl, ?_, a1, off_nil _, valid_nil _, by simp⟩⟩⟩
              have hp : 0 ≤ n ∧ n < (xs.length : Int) := hpre
              omega
          · cases h
        · rename_i g2 f b xs e2
          have := hs _ _ e2
          rw [hkk] at this; cases this
          split at h
          · rename_i hb
            rw [Bool.and_eq_true] at hb
            cases h
            obtain rfl := T.beq_eq hb.2
            have hh := hx (Nat.eq_of_beq_eq_true hb.1)
            obtain ⟨v, e3, hsl⟩ := hm.loc k _ _ hkk
            cases e3
            obtain ⟨bb, off, cap, e1, e2⟩ := sl_elem hsl hpre.1 hpre.2
            refine ⟨_, w, ?_, Post.eff hm e2⟩
            rw [hh]
            simp only [hdrOf, e1]; exact run_index_sl h1 h2 hpre.1 hpre.2
          · cases h
        · rename_i g2 f l b xs e2
          have := hs _ _ e2
          rw [hkk] at this; cases this
          split at h
          · rename_i hb
            rw [Bool.and_eq_true] at hb
            cases h
            obtain rfl := T.beq_eq hb.2
            have hg := Nat.eq_of_beq_eq_true hb.1
            have hh := hx hg
            obtain ⟨bb, cur, ee, a1, a2, a3, a4, a5⟩ := hm.loc k _ _ hkk
            rw [hh]
            simp only [hdrOf, a2]
            refine ⟨_, w, run_index_sl h1 h2 hpre.1 hpre.2, Post.eff hm ⟨_, _, hkk, hle, fun _ => ⟨bb, _, a1, ?_, ?_, by rw [Nat.zero_add]⟩⟩⟩
            · show ((b.off []).map (n.toNat * b.csize + ·)) = _
              rw [off_nil]; rfl
            · refine ⟨?_, valid_nil _⟩
              have hp : 0 ≤ n ∧ n < (l : Int) := hpre
              omega
          · cases h
        · rename_i g2 f b xss hh hole e2
          have := hs _ _ e2
          rw [hkk] at this; cases this
          split at h
          · rename_i hb
            rw [Bool.and_eq_true] at hb
            cases h
            obtain rfl := T.beq_eq hb.2
            have hg := Nat.eq_of_beq_eq_true hb.1
            have hh := hx hg
            have hp : 0 ≤ n ∧ n < (xss.length : Int) := hpre
            obtain ⟨vs, a1, a2, _⟩ := hm.loc k _ _ hkk
            rcases a1 with ⟨_, hn, _⟩ | ⟨bb, off, cap, cur, ee, a1, a3, _⟩
            · subst hn
              simp at a2
              omega
            · rw [hh]
              simp only [hdrOf, a3]
              refine ⟨_, w, run_index_sl h1 h2 hp.1 (by rw [a2]; exact hp.2), Post.eff hm ⟨_, _, hkk, hle, fun _ => ⟨bb, off, n.toNat, rfl, by omega, a1, by simp [T.csize]⟩⟩⟩
          · cases h
        · cases h
      · rename_i k g hh j
        split at h
        · rename_i f b xs e2
          split at h
          · rename_i hb
            cases h
            obtain rfl := T.beq_eq hb
            have hp : 0 ≤ n ∧ n < (xs.length : Int) := hpre
            obtain ⟨xss, hole, q1, q2, q3, q4, q5⟩ := innX_spec hm hs e2 hx
            rcases q5 with ⟨_, hn, _⟩ | ⟨bb, off, cap, cur, ee, a1, a2, a3⟩
            · subst hn
              simp at hp; omega
            · rw [a2]
              refine ⟨_, w, run_index_sl h1 h2 hpre.1 hpre.2, Post.eff hm ⟨_, _, q1, Nat.le_refl _, fun _ => ⟨Nat.le_refl _, fun _ => ⟨bb, off, 0, n.toNat, [], rfl, ?_, ?_, a1, off_nil _, valid_nil _, by simp⟩⟩⟩⟩
              · exact (List.getElem?_eq_some_iff.1 q3).1
              · have : xss.getD j [] = xs := by simp [List.getD_eq_getElem?_getD, q3]
                rw [this]; omega
          · cases h
        · cases h
      · cases h
    · rename_i l a ht
      obtain ⟨et, h1, h2⟩ := ty_arr (hk.Θ _ _ ht)
      split at h
      · rename_i k g p
        split at h
        · rename_i f s y hg
          split at h
          · rename_i hb
            cases h
            obtain rfl := T.beq_eq hb
            obtain ⟨b, o, cs, rfl, _, _⟩ := mget_spec hm hs hg hx
            refine ⟨_, w, run_index_arr h1 h2 hpre.1 hpre.2, Post.eff hm (ptr_app hs hg ?_ ?_ hx)⟩
            · show ((a.off []).map (n.toNat * a.csize + ·)) = _
              rw [off_nil]; rfl
            · refine ⟨?_, valid_nil _⟩
              have hp : 0 ≤ n ∧ n < (l : Int) := hpre
              omega
          · cases h
        · cases h
      · rename_i f l' b xs
        split at h
        · rename_i hb
          rw [Bool.and_eq_true] at hb
          cases h
          obtain rfl := T.beq_eq hb.2
          obtain rfl := Nat.eq_of_beq_eq_true hb.1
          obtain ⟨bb, o, cs, rfl, a1, a2, a3, a4, a5⟩ := hx
          refine ⟨_, w, run_index_arr h1 h2 hpre.1 hpre.2, Post.eff hm ⟨bb, _, _, rfl, a1, a2, cellsAt_sub a3 _ _, repL_get (fun x cs h => c_len (P := P) b h) _ _ a5 _ _ (getD_of_lt ?_)⟩⟩
          have hp : 0 ≤ n ∧ n < (l' : Int) := hpre
          rw [a4]; omega
        · cases h
      · cases h
    · cases h
  · cases h

theorem aIndex_ok (hk : Cok P cx) (hm : MRel P B G m w w0) {t : TypeId} {x i : V} {e : Eff} (h : aIndex cx t x i = some e) (hpre : e.pre) {vx vi : Value} (hx : ERep P B G m w x vx) (hi : ERep P B G m w i vi) :
    ∃ v w', (Instr.index t vx vi).run P w = .ok v w' ∧ Post P B w0 G m w e v w' := by
  unfold aIndex at h
  split at h
  · rename_i f0 n
    change Int at n
    obtain ⟨rfl, _⟩ := int_val hi
    split at h
    · rename_i l a f l' b xs ht
      obtain ⟨et, h1, h2⟩ := ty_arr (hk.Θ _ _ ht)
      split at h
      · rename_i hb
        rw [Bool.and_eq_true] at hb
        cases h
        obtain rfl := T.beq_eq hb.2
        obtain rfl := Nat.eq_of_beq_eq_true hb.1
        obtain ⟨cs, rfl, a4, a5⟩ := hx
        have hp : 0 ≤ n ∧ n < (l' : Int) := hpre
        have hlt : n.toNat < List.length xs := by rw [a4]; omega
        have hel := repL_get (fun x cs h => c_len (P := P) b h) _ _ a5 _ _ (getD_of_lt (d := b.dflt) hlt)
        have hpt := run_part (P := P) (w := w) h2 (cs := cs.toArray) (off := n.toNat * b.csize) (by simpa using hel)
        refine ⟨_, w, ?_, Post.eff hm ⟨_, rfl, hel⟩⟩
        have hp1 := hp.1
        have hp2 := hp.2
        simp [mkV, T.agg, Instr.index, asIntOf, run_underlying h1, hp1, hp2, tys_size h2, hpt]
      · cases h
    · cases h
  · cases h

theorem aExtract_ok (hm : MRel P B G m w w0) {x : V} {i : Nat} {e : Eff} (h : aExtract x i = some e) {vx : Value} (hx : ERep P B G m w x vx) :
    ∃ v w', (Instr.extract vx i).run P w = .ok v w' ∧ Post P B w0 G m w e v w' := by
  unfold aExtract at h
  split at h
  · split at h
    · rename_i hb
      cases h
      obtain ⟨vs, rfl, hn, hx⟩ := hx
      have hi : i < vs.length := by rw [hn]; exact Nat.le_of_ble_eq_true hb
      exact ⟨vs[i], w, by simp [Instr.extract, hi], Post.eff hm (hx i _ (by simp [hi]))⟩
    · cases h
  · cases h

end

end Go.Tk
