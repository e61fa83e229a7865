/- The engine, part F: the operations that lay, read and write memory do what their abstract twins say. No conditions. -/
import Derived.Test.YtmedjckknalpbaaEngE
set_option linter.unusedSimpArgs false
set_option linter.unusedVariables false
namespace Go.Tk
open Go Go.RowKit

def Post (P : Program) (B : Bs) (w0 : World) (G : Nat → Gh) (m : Mem) (w : World) (e : Eff) (v : Value) (w' : World) : Prop :=
  ∃ G', MRel P B G' (putLoc m e.upd) w' w0 ∧ Ext B G m w G' (putLoc m e.upd) w' ∧ ERep P B G' (putLoc m e.upd) w' e.val v

theorem putLoc_append (m : Mem) : ∀ (u v : List (Nat × Nat × L)), putLoc m (u ++ v) = putLoc (putLoc m u) v
  | [], _ => rfl
  | (k, g, l) :: u, v => putLoc_append (set1 m k g l) u v

theorem putLoc_one (m : Mem) (k g : Nat) (l : L) : putLoc m [(k, g, l)] = set1 m k g l := rfl

section
variable {P : Program} {B : Bs} {G : Nat → Gh} {m m' : Mem} {w w0 : World} {cx : Cx}

theorem Post.eff (hm : MRel P B G m w w0) {p : Prop} {V : V} {v : Value} (hv : ERep P B G m w V v) : Post P B w0 G m w ⟨p, V, []⟩ v w := ⟨G, hm, Ext.refl, hv⟩

theorem addr_add (b o j : Nat) : (⟨b, o, none⟩ : Addr).add j = ⟨b, o + j, none⟩ := Addr.add_lit b o j

/-! ### Loads -/
theorem run_loadVar {t : T} {i : TypeId} (ht : (tys P t).ty i) {x : t.den} {S : Nat → Prop} {cs : List Value} (hc : (reps P t).c w S x cs) {b o : Nat} (hcs : cellsAt w b o cs) : (loadVar i ⟨b, o, none⟩).run P w = .ok (mkV t cs) w := by
  unfold loadVar
  rw [Sem.run_bind, tys_agg ht]
  have hl := c_len t hc
  unfold mkV
  cases ha : t.agg
  · have hs : t.csize = 1 := by cases t <;> simp_all [T.agg, T.csize]
    match cs, hl.trans hs with
    | [v], _ =>
      have h0 := hcs 0 v rfl
      simp only [Nat.add_zero] at h0
      simp [h0]
  · have := run_loadCells_list (P := P) w ⟨b, o, none⟩ cs (fun j v h => by rw [addr_add]; exact hcs j v h)
    simp [tys_size ht, ← hl, this]

theorem cellsAt_cur {b : Nat} {cur : Array Value} {e : TypeId} {fr : Nat × Nat} (h : w.heap[b]? = some (.cells cur e fr)) (o n : Nat) : cellsAt w b o ((cur.toList.drop o).take n) := by
  intro j v hv
  rw [cell_of_row w b (o + j) cur e fr h]
  rw [List.getElem?_take] at hv
  split at hv
  · simpa using hv
  · cases hv

theorem inner_cells (l : List Value) (off N n a o c : Nat) (h : o + c ≤ a) (h2 : n + a ≤ N) : (((((l.drop off).take N).drop n).take a).drop o).take c = (l.drop (off + (n + o))).take c := by
  apply List.ext_getElem?
  intro j
  simp only [List.getElem?_take, List.getElem?_drop]
  repeat' split
  all_goals (try omega)
  all_goals (try (congr 1; omega))
  all_goals (try rfl)

theorem off_nil (t : T) : t.off [] = some 0 := by cases t <;> rfl

/-- What 'mget' finds is there. -/
theorem mget_spec (hm : MRel P B G m w w0) (hs : Sub m' m) {k g : Nat} {p : List Stp} {f : Bool} {s : T} {y : s.den} (h : mget m' k g p = some (f, ⟨s, y⟩)) {v : Value} (hv : ERep P B G m w (.ptr k g p) v) :
    ∃ b o cs, v = .pointer (some ⟨b, o, none⟩) ∧ cellsAt w b o cs ∧ (reps P s).c w (dS B G m f) y cs := by
  obtain ⟨g', l, hk, hle, hv⟩ := hv
  unfold mget at h
  split at h
  · rename_i g2 l2 e2
    have := hs _ _ e2
    rw [hk] at this; cases this
    split at h
    · rename_i hg
      have hp := hv (Nat.eq_of_beq_eq_true hg)
      split at h
      · rename_i f2 s2 x2
        split at h
        · rename_i r hr
          cases h
          obtain ⟨b, cur, e, h1, h2, h3, h4, h5⟩ := hm.loc k _ _ hk
          obtain ⟨b', o, h6, h7, h8, h9⟩ := hp
          rw [h1] at h6; cases h6
          obtain ⟨r1, r2⟩ := get_c _ _ p s y o hr h7 h8 h5
          exact ⟨b, o, _, h9, cellsAt_cur h4 o _, r1⟩
        · cases h
      · rename_i f2 s2 xs2
        split at h
        · rename_i n p'
          split at h
          · rename_i r hr
            cases h
            obtain ⟨b', off, o, n', p2, h6, h7, h8, h9, h10, h11⟩ := hp
            cases h6
            rcases hm.loc k _ _ hk with ⟨_, _, hn⟩ | ⟨b, off2, cap, cur, e, h1, h2, h3, h4, h5, h12, h13, h14⟩
            · rw [hn] at h8; cases h8
            · rw [h1] at h8; cases h8
              have he := repL_get (fun x cs h => c_len (P := P) s2 h) _ _ h14 n _ (getD_of_lt (d := s2.dflt) h7)
              obtain ⟨r1, r2⟩ := get_c _ _ p' s y o hr h9 h10 he
              rw [List.length_take, List.length_drop] at r2
              have hmul : n * s2.csize + s2.csize ≤ xs2.length * s2.csize := by
                have : (n + 1) * s2.csize ≤ xs2.length * s2.csize := Nat.mul_le_mul_right _ h7
                rwa [Nat.add_mul, Nat.one_mul] at this
              refine ⟨_, _, _, h11, cellsAt_cur h4 _ s.csize, ?_⟩
              have e1 := inner_cells cur.toList off (xs2.length * s2.csize) (n * s2.csize) s2.csize o s.csize (by omega) (by omega)
              rw [e1] at r1
              exact r1
          · cases h
        · cases h
      · split at h
        · cases h
          obtain ⟨b, h1, b2, off, ds, e, q1, q2, q3, q4⟩ := hm.loc k _ _ hk
          obtain ⟨b', o, h6, h7, h8, h9⟩ := hp
          rw [h1] at h6; cases h6
          rw [off_nil] at h7; cases h7
          cases e
          exact ⟨b, 0, ds, h9, q3, q4⟩
        · cases h
      · cases h
    · cases h
  · cases h

theorem nsl_sl {a : T} {S : Nat → Prop} {xs : List a.den} {cs : List Value} (h : (reps P (.nsl a)).c w S xs cs) : (reps P (.sl a)).c w S xs cs := by
  obtain ⟨v, e, h, _⟩ := h
  exact ⟨v, e, h⟩

/-- What 'nlAt' finds is there. -/
theorem nlAt_spec (hm : MRel P B G m w w0) (hs : Sub m' m) {k g hh n : Nat} {p : List Stp} (h : nlAt m' k g p = some (hh, n)) {v : Value} (hv : ERep P B G m w (.ptr k g p) v) :
    ∃ b o, v = .pointer (some ⟨b, o, none⟩) ∧ cellsAt w b o [(G k).ih n] ∧ ERep P B G m w (.inn k g hh n) ((G k).ih n) := by
  obtain ⟨g', l, hk, hle, hv⟩ := hv
  unfold nlAt at h
  split at h
  · rename_i g2 f s xss h2 hole e2
    split at h
    · rename_i hg
      have e3 := hs _ _ e2
      rw [hk] at e3; cases e3
      obtain rfl := Nat.eq_of_beq_eq_true hg
      obtain ⟨b, off, n', rfl, q1, q2, rfl⟩ := hv rfl
      have hne : hole ≠ some n' ∧ hh = h2 ∧ n = n' := by
        simp only at h
        split at h
        · cases h; exact ⟨by simp, rfl, rfl⟩
        · split at h
          · cases h
          · rename_i hb
            cases h
            exact ⟨fun e => by cases e; simp at hb, rfl, rfl⟩
      obtain ⟨hne, rfl, rfl⟩ := hne
      obtain ⟨vs, a1, a2, a3, a4, a5, a6, a7⟩ := hm.loc k _ _ hk
      refine ⟨b, off + n, rfl, ?_, _, _, hk, Nat.le_refl _, fun _ => ⟨Nat.le_refl _, fun _ => ⟨q1, rfl⟩⟩⟩
      rcases a1 with ⟨_, _, hn⟩ | ⟨b', off2, cap, cur, e, h1, h2, h3, h4, h5, h12, h13, h14⟩
      · rw [hn] at q2; cases q2
      · rw [h1] at q2; cases q2
        have hlt : n < vs.length := by omega
        have hv : vs[n]? = some vs[n] := by simp [hlt]
        have he := repL_get (n := 1) (fun x cs h => by rw [h]; rfl) _ _ h14 n _ hv
        have hx := (a3 n _ hv).resolve_right hne
        intro j u hj
        cases j with
        | succ j => simp at hj
        | zero =>
          simp at hj
          subst hj
          rw [← hx]
          have hc := cellsAt_cur h4 (off + n) 1 0 vs[n]
          refine hc ?_
          rw [Nat.mul_one, List.drop_take, List.drop_drop, List.take_take] at he
          rw [show min 1 (vs.length * 1 - n) = 1 by omega] at he
          rw [he]; rfl
    · cases h
  · cases h

/-- What 'iget' finds is there. -/
theorem iget_spec (hm : MRel P B G m w w0) (hs : Sub m' m) {k g hh n : Nat} {p : List Stp} {f : Bool} {s : T} {y : s.den} (h : iget m' k g hh n p = some (f, ⟨s, y⟩)) {v : Value} (hv : ERep P B G m w (.ipt k g hh n p) v) :
    ∃ b o cs, v = .pointer (some ⟨b, o, none⟩) ∧ cellsAt w b o cs ∧ (reps P s).c w (dS B G m f) y cs := by
  obtain ⟨g', l, hk, hle, hv⟩ := hv
  unfold iget at h
  split at h
  · rename_i f2 s2 xs2 hx
    split at h
    · rename_i i p'
      split at h
      · rename_i r hr
        cases h
        have hg : g = g' ∧ ∃ xss hole, l = .nl f s2 xss hh hole ∧ hole ≠ some n ∧ xss.getD n [] = xs2 := by
          unfold innX at hx
          split at hx
          · rename_i g2 f' s' xss h' hole e
            split at hx
            · rename_i hb
              simp only [Bool.and_eq_true] at hb
              obtain ⟨hb1, hb2, hb3⟩ := hb
              simp only [Option.some.injEq, Prod.mk.injEq, Sigma.mk.injEq] at hx
              obtain ⟨rfl, rfl, hx⟩ := hx
              have hx := eq_of_heq hx
              have e2 := hs _ _ e
              rw [hk] at e2; cases e2
              obtain rfl := Nat.eq_of_beq_eq_true hb2
              exact ⟨Nat.eq_of_beq_eq_true hb1, xss, hole, rfl, fun e => by subst e; simp at hb3, hx⟩
            · cases hx
          · cases hx
        obtain ⟨rfl, xss, hole, rfl, hne, rfl⟩ := hg
        obtain ⟨b, off, o, i', p2, h6, hn, h7, h8, h9, h10, h11⟩ := (hv rfl).2 rfl
        cases h6
        obtain ⟨vs, a1, a2, a3, a4, a5, a6, a7⟩ := hm.loc k _ _ hk
        rcases a4 n _ (getD_of_lt (d := []) hn) hne with ⟨_, _, hn⟩ | ⟨b, off2, cap, cur, e, h1, h2, h3, h4, h5, h12, h13, h14⟩
        · rw [hn] at h8; cases h8
        · rw [h1] at h8; cases h8
          have he := repL_get (fun x cs h => c_len (P := P) s2 h) _ _ h14 i _ (getD_of_lt (d := s2.dflt) h7)
          obtain ⟨r1, r2⟩ := get_c _ _ p' s y o hr h9 h10 he
          rw [List.length_take, List.length_drop] at r2
          have hmul : i * s2.csize + s2.csize ≤ (xss.getD n []).length * s2.csize := by
            have : (i + 1) * s2.csize ≤ (xss.getD n []).length * s2.csize := Nat.mul_le_mul_right _ h7
            rwa [Nat.add_mul, Nat.one_mul] at this
          refine ⟨_, _, _, h11, cellsAt_cur h4 _ s.csize, ?_⟩
          have e1 := inner_cells cur.toList off ((xss.getD n []).length * s2.csize) (i * s2.csize) s2.csize o s.csize (by omega) (by omega)
          rw [e1] at r1
          exact r1
      · cases h
    · cases h
  · cases h

/-- A load: the value is there, and the world as it was. -/
theorem aLoad_run (hk : Cok P cx) (hm : MRel P B G m w w0) (hs : Sub m' m) {t : TypeId} {a : V} {e : Eff} (h : aLoad cx t m' a = some e) {va : Value} (hv : ERep P B G m w a va) :
    ∃ b o v, va = .pointer (some ⟨b, o, none⟩) ∧ (loadVar t ⟨b, o, none⟩).run P w = .ok v w ∧ ERep P B G m w e.val v ∧ e.upd = [] := by
  unfold aLoad at h
  split at h
  · cases h
  · rename_i u hu
    have ht := hk.Θ _ _ hu
    split at h
    · rename_i k g p
      split at h
      · rename_i f s y hg
        split at h
        · rename_i hb
          cases h
          obtain rfl := T.beq_eq hb
          obtain ⟨b, o, cs, rfl, h1, h2⟩ := mget_spec hm hs hg hv
          exact ⟨b, o, _, rfl, run_loadVar ht h2 h1, ⟨cs, rfl, h2⟩, rfl⟩
        · split at h
          · rename_i a2 b2 y2 _
            split at h
            · rename_i hb
              cases h
              obtain rfl := T.beq_eq hb
              obtain ⟨b, o, cs, rfl, h1, h2⟩ := mget_spec hm hs hg hv
              exact ⟨b, o, _, rfl, run_loadVar ht (nsl_sl h2) h1, ⟨cs, rfl, h2⟩, rfl⟩
            · cases h
          · cases h
      · split at h
        · rename_i hh n hn
          split at h
          · rename_i f2 s2 xs2 hx
            split at h
            · rename_i hb
              cases h
              obtain rfl := T.beq_eq hb
              obtain ⟨b, o, rfl, h1, h2⟩ := nlAt_spec hm hs hn hv
              obtain ⟨xss, hole, e1, e2, e3, e4, e5⟩ := innX_spec hm hs hx h2
              have hc : (reps P (.sl s2)).c w (fun _ => True) xs2 [(G k).ih n] := ⟨_, rfl, repSl_of_own e5 (fun _ _ _ => trivial) fun _ _ h => c_mono _ h fun _ _ _ => trivial⟩
              exact ⟨b, o, _, rfl, run_loadVar ht hc h1, h2, rfl⟩
            · cases h
          · cases h
        · cases h
    · rename_i f s y
      split at h
      · rename_i hb
        cases h
        obtain rfl := T.beq_eq hb
        obtain ⟨b, o, cs, rfl, _, _, h1, h2⟩ := hv
        exact ⟨b, o, _, rfl, run_loadVar ht h2 h1, ⟨cs, rfl, h2⟩, rfl⟩
      · cases h
    · rename_i k g hh n p
      split at h
      · rename_i f s y hg
        split at h
        · rename_i hb
          cases h
          obtain rfl := T.beq_eq hb
          obtain ⟨b, o, cs, rfl, h1, h2⟩ := iget_spec hm hs hg hv
          exact ⟨b, o, _, rfl, run_loadVar ht h2 h1, ⟨cs, rfl, h2⟩, rfl⟩
        · cases h
      · cases h
    · cases h

theorem aLoad_ok (hk : Cok P cx) (hm : MRel P B G m w w0) (hs : Sub m' m) {t : TypeId} {a : V} {e : Eff} (h : aLoad cx t m' a = some e) {va : Value} (hv : ERep P B G m w a va) :
    ∃ v w', (Instr.loadAt t va).run P w = .ok v w' ∧ Post P B w0 G m w e v w' := by
  obtain ⟨b, o, v, rfl, h1, h2, h3⟩ := aLoad_run hk hm hs h hv
  obtain ⟨p, V, u⟩ := e
  simp only at h3 h2
  subst h3
  exact ⟨v, w, by simp [Instr.loadAt, Instr.sureAddr, h1], Post.eff hm h2⟩

/-! ### New variables -/
theorem run_newVar {t : T} {S : Nat → Prop} {x : t.den} {cs : List Value} (hc : (reps P t).c w S x cs) (i : TypeId) : (newVar i (mkV t cs)).run P w = .ok ⟨w.heap.size, 0, none⟩ (w.alloc (.cells cs.toArray i)) := by
  simp [newVar, newRow, mkV_cells hc]

theorem below_alloc (w : World) (o : Obj) : Below w.heap.size w (w.alloc o) := (Below.refl _ _).alloc (Nat.le_refl _) o

theorem box_post (hm : MRel P B G m w w0) {d g : Nat} (hg : g = nx m d) {f : Bool} {t : T} {x : t.den} {cs : List Value} (hc : (reps P t).c w (dS B G m f) x cs) (i : TypeId) {p : Prop} :
    Post P B w0 G m w ⟨p, .ptr d g [], [(d, g, .box f t x)]⟩ (.pointer (some ⟨w.heap.size, 0, none⟩)) (w.alloc (.cells cs.toArray i)) := by
  subst hg
  have hch := Chg.new (B := B) (G := G) (m := m) d (gh (.pointer (some ⟨w.heap.size, 0, none⟩)) (some (w.heap.size, 0))) (.box f t x) (below_alloc w (.cells cs.toArray i)) (fun b ⟨o, e⟩ => by cases e; exact Nat.le_refl _)
  have he := hch.ext hm
  refine ⟨_, hch.rel hm ⟨w.heap.size, cs.toArray, i, by rw [setG_same]; rfl, by rw [setG_same]; rfl, hm.base, heap_alloc_new w _, by simpa using he.c hc⟩, he, ?_⟩
  refine ⟨_, _, set1_same .., Nat.le_refl _, fun _ => ⟨w.heap.size, 0, by rw [setG_same]; rfl, ?_, ?_, rfl⟩⟩
  · cases t <;> rfl
  · cases t <;> trivial

theorem Post.seq {u1 u2 : List (Nat × Nat × L)} {p : Prop} {V : V} {v : Value} {w' : World} (he : Ext B G m w G (putLoc m u1) w) (h : Post P B w0 G (putLoc m u1) w ⟨p, V, u2⟩ v w') : Post P B w0 G m w ⟨p, V, u1 ++ u2⟩ v w' := by
  obtain ⟨G', h1, h2, h3⟩ := h
  refine ⟨G', ?_, ?_, ?_⟩
  · show MRel P B G' (putLoc m (u1 ++ u2)) w' w0
    rw [putLoc_append]; exact h1
  · show Ext B G m w G' (putLoc m (u1 ++ u2)) w'
    rw [putLoc_append]; exact he.trans h2
  · show ERep P B G' (putLoc m (u1 ++ u2)) w' V v
    rw [putLoc_append]; exact h3

theorem aAlloc_ok (hk : Cok P cx) (hm : MRel P B G m w w0) {i : TypeId} {dst : Option Nat} {e : Eff} (hd : ∀ d, dst = some d → m' d = m d) (h : aAlloc cx i dst m' = some e) :
    ∃ v w', (Instr.alloc i true (.tuple #[])).run P w = .ok v w' ∧ Post P B w0 G m w e v w' := by
  unfold aAlloc at h
  split at h
  · rename_i d t ht
    split at h
    · rename_i hz
      have hty := hk.Θ _ _ ht
      have hc := zeroCs_c (P := P) (w := w) (S := dS B G m true) hz
      split at h
      · split at h
        · rename_i a
          cases h
          have hc2 : (reps P (.nsl a)).c w (dS B G m true) [] [.slice none 0 0] := zeroCs_c (t := .nsl a) rfl
          refine ⟨_, _, ?_, box_post hm (nx_eq (hd d rfl)) hc2 i⟩
          simp [Instr.alloc, tys_zero hty hz, run_newVar hc]
          rfl
        · cases h
      · cases h
        refine ⟨_, _, ?_, box_post hm (nx_eq (hd d rfl)) hc i⟩
        simp [Instr.alloc, tys_zero hty hz, run_newVar hc]
    · cases h
  · cases h

theorem nx_set1 {k g : Nat} {l l0 : L} (h : m k = some (g, l0)) (d : Nat) : nx (set1 m k g l) d = nx m d := by
  unfold nx
  by_cases e : k = d
  · subst e; rw [set1_same, h]
  · rw [set1_other m g l e]

/-- Nothing is frozen of a local that is written anew: its number goes on counting. -/
theorem fz_gen {u : List (Nat × Nat × L)} {t : T} {V : V} {f : Bool} {x : t.den} (h : stor cx.Γ m' t V = some (f, x, u)) (hs : Sub m' m) (d : Nat) : nx (putLoc m u) d = nx m d := by
  unfold stor at h
  split at h
  · cases h
  · split at h
    · rename_i k g
      split at h
      · rename_i g2 f2 s2 xs2 e2
        cases h
        exact nx_set1 (hs _ _ e2) d
      · cases h; rfl
      · rename_i g2 f2 s2 xs2 h2 e2
        cases h
        exact nx_set1 (hs _ _ e2) d
      · cases h
    · cases h
    · cases h; rfl

theorem cellsAt_new (w : World) (cs : List Value) (i : TypeId) : cellsAt (w.alloc (.cells cs.toArray i)) w.heap.size 0 cs := fun j u h => by
  have := cellsAt_cur (w := w.alloc (.cells cs.toArray i)) (heap_alloc_new w (.cells cs.toArray i)) 0 cs.length j u (by simpa using h)
  simpa using this

theorem aBox_ok (hk : Cok P cx) (hm : MRel P B G m w w0) (hs : Sub m' m) {i : TypeId} {dst : Option Nat} {a : V} {e : Eff} (hd : ∀ d, dst = some d → m' d = m d) (h : aBox cx i dst m' a = some e) {va : Value} (hv : ERep P B G m w a va) :
    ∃ v w', (Instr.box i va).run P w = .ok v w' ∧ Post P B w0 G m w e v w' := by
  unfold aBox at h
  split at h
  · rename_i d t ht
    split at h
    · rename_i f x u hst
      split at h
      · cases h
        obtain ⟨r1, r2, cs, rfl, hc⟩ := stor_spec hk hm hs hst hv
        obtain ⟨g1, g2⟩ := r1.grow (below_alloc w (.cells cs.toArray i))
        refine ⟨.pointer (some ⟨w.heap.size, 0, none⟩), w.alloc (.cells cs.toArray i), by simp [Instr.box, run_newVar hc], G, g1, r2.trans g2, w.heap.size, 0, cs, rfl, ?_, by simp, cellsAt_new w cs i, g2.c hc⟩
        refine ⟨⟨fun _ => hm.base, .inl hm.base⟩, fun k g l hk hmut e => ?_, fun hT => ?_⟩
        · have := ((r1.loc k g l hk).blk_lt hmut e).1
          omega
        · have := (hm.frn.1 _ (.inl hT)).1
          omega
      cases h
      obtain ⟨r1, r2, cs, rfl, hc⟩ := stor_spec hk hm hs hst hv
      refine ⟨_, _, ?_, Post.seq r2 (box_post r1 ?_ hc i)⟩
      · simp [Instr.box, run_newVar hc]
      · rw [fz_gen hst hs]; exact nx_eq (hd d rfl)
    · cases h
  · cases h

/-! ### Own slices -/
theorem sl_post (hm : MRel P B G m w w0) {d g : Nat} (hg : g = nx m d) {f : Bool} {t : T} {xs : List t.den} {w' : World} (hb : Below w.heap.size w w') {v : Value} {ob : Option (Nat × Nat)} (hob : ∀ b o, ob = some (b, o) → w.heap.size ≤ b)
    (hown : repOwn ((reps P t).c w (dS B G m f)) t.csize w' (fun _ => True) xs v ob) {p : Prop} : Post P B w0 G m w ⟨p, .own d g, [(d, g, .sl f t xs)]⟩ v w' := by
  subst hg
  have hch := Chg.new (B := B) (G := G) (m := m) d (gh v ob) (.sl f t xs) hb (fun b ⟨o, e⟩ => hob b o e)
  have he := hch.ext hm
  refine ⟨_, hch.rel hm ?_, he, ⟨_, _, set1_same .., Nat.le_refl _, fun _ => by rw [setG_same]; rfl⟩⟩
  unfold LRep
  rw [setG_same]
  rcases hown with h | ⟨b, off, cap, cur, e, h1, h2, h3, h4, h5, h6, h7, h8⟩
  · exact .inl h
  · exact .inr ⟨b, off, cap, cur, e, h1, h2, Nat.le_trans hm.base (hob b off h1), h4, h5, h6, h7, repL_mono (fun _ _ h => he.c h) _ _ h8⟩

theorem aMove_ok (hm : MRel P B G m w w0) {ty : TypeId} {dst : Option Nat} {a : V} {e : Eff} (hd : ∀ d, dst = some d → m' d = m d) (h : aMove cx ty dst m' a = some e) {va : Value} (hv : ERep P B G m w a va) : Post P B w0 G m w e va w := by
  unfold aMove at h
  split at h
  · have hv : va = .slice none 0 0 := hv
    subst hv
    split at h
    · rename_i d t _
      cases h
      exact sl_post hm (nx_eq (hd d rfl)) (Below.refl _ _) (ob := none) (fun b o e => by cases e) (.inl ⟨rfl, rfl, rfl⟩)
    · cases h; exact Post.eff hm rfl
  all_goals (cases h; exact Post.eff hm hv)

/-! ### Stores -/
theorem run_storeVar {t : T} {i : TypeId} (ht : (tys P t).ty i) {y : t.den} {S : Nat → Prop} {cy : List Value} (hc : (reps P t).c w S y cy) {b o : Nat} {cur : Array Value} {e : TypeId} (hb : w.heap[b]? = some (.cells cur e (0, 0))) (hfit : o + cy.length ≤ cur.size) :
    (storeVar i ⟨b, o, none⟩ (mkV t cy)).run P w = .ok () (w.setRow b (cur.toList.take o ++ cy ++ cur.toList.drop (o + cy.length)).toArray) := by
  have hst := run_storeCells_at P b o e cy 0 cur w hb (by simpa using hfit) (c_one t hc)
  simp only [Nat.add_zero] at hst
  have hl := c_len t hc
  unfold storeVar
  simp [mkV_cells hc, tys_size ht, hl, hst]

theorem below_setRow' {w : World} {b : Nat} (cs : Array Value) : (w.setRow b cs).os = w.os ∧ (w.setRow b cs).tape = w.tape ∧ (w.setRow b cs).output = w.output ∧ (w.setRow b cs).heap.size = w.heap.size := ⟨rfl, rfl, rfl, by simp⟩

theorem oth_row {b : Nat} {cur : Array Value} {e : TypeId} (hb : w.heap[b]? = some (.cells cur e (0, 0))) (cs : Array Value) : ∀ i o, w.heap[i]? = some o → ¬ isC w i → (w.setRow b cs).heap[i]? = some o := fun i o h hn => by
  rw [setRow_other w b i cs fun e' => hn ⟨cur, e, _, by rw [e']; exact hb⟩]
  exact h

/-- A store into a local of ours. -/
theorem Chg.row (hm : MRel P B G m w w0) {k g : Nat} {l l' : L} (hk : m k = some (g, l)) (hmut : l.mut = true) {b : Nat} {cur : Array Value} {e : TypeId} (hc : w.heap[b]? = some (.cells cur e (0, 0))) (hb : ownL (G k) l b) (hx : LExt l l') (ho : ∀ b, ownL (G k) l' b → ownL (G k) l b) (cs : Array Value) : Chg B G m w k g (G k) l' (w.setRow b cs) :=
  ⟨rfl, rfl, rfl, by simp, fun i hi hne => setRow_other w b i cs fun e => hne g l hk hmut (by rw [e]; exact hb), fun _ b' e => .inr ⟨g, l, hk, hmut, ho b' e⟩, fun g0 l0 e => by
    rw [hk] at e; cases e
    exact ⟨Nat.le_refl _, fun _ => hx _⟩, oth_row hc cs⟩

theorem LExt.box {f f' : Bool} {t : T} {x x' : t.den} : LExt (.box f t x) (.box f' t x') := fun _ => ⟨fun _ _ h => h, by cases t <;> rfl, fun _ _ _ h => h, fun _ _ _ h => h, fun _ _ _ _ h => h⟩
theorem LExt.sl {f f' : Bool} {t : T} {xs xs' : List t.den} (h : xs.length = xs'.length) : LExt (.sl f t xs) (.sl f' t xs') := fun Gk =>
  ⟨fun _ _ ⟨b, off, o, n, p', h1, h2, h3⟩ => ⟨b, off, o, n, p', h1, by rw [← h]; exact h2, h3⟩, rfl, fun lo hi v hs => by
    obtain ⟨h1, h2, ao, cap, h3, h4, h5⟩ := hs
    exact ⟨h1, by rw [← h]; exact h2, ao, cap, by rw [← h]; exact h3, by rw [← h]; exact h4, h5⟩, fun _ _ _ h => h, fun _ _ _ _ h => h⟩

theorem dS_and {f f' : Bool} (b : Nat) (h : dS B G m f b) (hf : f = false → f' = false) : dS B G m f' b := ⟨⟨fun e => h.1.1 (by cases f <;> simp_all), h.1.2⟩, h.2⟩

theorem c_and {t : T} {f f' : Bool} {x : t.den} {cs : List Value} (h : (reps P t).c w (dS B G m f) x cs) (hf : f = false → f' = false) : (reps P t).c w (dS B G m f') x cs := c_mono t h fun b _ h => dS_and b h hf

theorem mput_spec (hm : MRel P B G m w w0) (hs : Sub m' m) {k g : Nat} {p : List Stp} {f : Bool} {t : T} {y : t.den} {g' : Nat} {l' : L} (h : mput m' k g p f t y = some (g', l')) {v : Value} (hv : ERep P B G m w (.ptr k g p) v)
    {i : TypeId} (ht : (tys P t).ty i) {cy : List Value} {f0 : Bool} (hc : (reps P t).c w (dS B G m f0) y cy) (hf : f = false ∨ f0 = true ∨ t.flat = true) :
    ∃ w', (Instr.storeAt i v (mkV t cy)).run P w = .ok () w' ∧ MRel P B G (set1 m k g' l') w' w0 ∧ Ext B G m w G (set1 m k g' l') w' := by
  obtain ⟨g1, l, hk, hle, hv⟩ := hv
  have hc2 : ∀ f1, (f1 && f) = true → (reps P t).c w (dS B G m (f1 && f)) y cy := by
    intro f1 h1
    have hf1 : f = true := by cases f <;> simp_all
    rcases hf with h | h | h
    · rw [hf1] at h; cases h
    · subst h; exact c_and hc (by simp)
    · exact c_flat t h hc
  have hc1 : ∀ f1, (reps P t).c w (dS B G m (f1 && f)) y cy := by
    intro f1
    cases h1 : (f1 && f)
    · exact c_and hc (fun _ => rfl)
    · rw [← h1]; exact hc2 f1 h1
  unfold mput at h
  split at h
  · rename_i g2 l2 e2
    have := hs _ _ e2
    rw [hk] at this; cases this
    split at h
    · rename_i hg
      have hp := hv (Nat.eq_of_beq_eq_true hg)
      split at h
      · rename_i f2 s2 x2
        split at h
        · rename_i x' hr
          cases h
          obtain ⟨b, cur, e, h1, h2, h3, h4, h5⟩ := hm.loc k _ _ hk
          obtain ⟨b', o, h6, h7, h8, h9⟩ := hp
          rw [h1] at h6; cases h6
          obtain ⟨r1, r2⟩ := put_c _ _ p t y o x' hr h7 h8 (c_and h5 (f' := f2 && f) (by simp_all)) (hc1 f2)
          have hst := run_storeVar ht hc h4 (by simpa using r2)
          have hch := Chg.row hm hk rfl h4 ⟨0, h1⟩ (l' := .box (f2 && f) s2 x') (LExt.box (f := f2) (f' := f2 && f) (x := x2) (x' := x')) (fun _ h => h) (cur.toList.take o ++ cy ++ cur.toList.drop (o + cy.length)).toArray
          have he := hch.ext hm
          have hl := hch.rel hm ⟨b, _, e, by rw [setG_self]; exact h1, by rw [setG_self]; exact h2, h3, setRow_heap w b cur _ e _ h4, by simpa using he.c r1⟩
          rw [setG_self] at he hl
          exact ⟨_, by simp [h9, Instr.storeAt, Instr.sureAddr, hst], hl, he⟩
        · cases h
      · rename_i f2 s2 xs2
        split at h
        · rename_i n p'
          split at h
          · rename_i x' hr
            cases h
            obtain ⟨b', off, o, n', p2, h6, h7, h8, h9, h10, h11⟩ := hp
            cases h6
            rcases hm.loc k _ _ hk with ⟨_, _, hn⟩ | ⟨b, off2, cap, cur, e, h1, h2, h3, h4, h5, h12, h13, h14⟩
            · rw [hn] at h8; cases h8
            · rw [h1] at h8; cases h8
              have hlen := repL_len (fun x cs h => c_len (P := P) s2 h) _ _ h14
              have h14' := repL_mono (fun _ _ h => c_and h (f' := f2 && f) (by simp_all)) _ _ h14
              have he := repL_get (fun x cs h => c_len (P := P) s2 h) _ _ h14' n _ (getD_of_lt (d := s2.dflt) h7)
              obtain ⟨r1, r2⟩ := put_c _ _ p' t y o x' hr h9 h10 he (hc1 f2)
              have hmul : n * s2.csize + s2.csize ≤ xs2.length * s2.csize := by
                have : (n + 1) * s2.csize ≤ xs2.length * s2.csize := Nat.mul_le_mul_right _ h7
                rwa [Nat.add_mul, Nat.one_mul] at this
              have hcap : xs2.length * s2.csize ≤ cap * s2.csize := Nat.mul_le_mul_right _ h5
              rw [List.length_take, List.length_drop] at r2
              rw [List.length_take, List.length_drop, Array.length_toList] at hlen
              have hset := repL_set (fun x cs h => c_len (P := P) s2 h) _ _ h14' n h7 _ _ r1
              have e1 := splice_in ((cur.toList.drop off).take (xs2.length * s2.csize)) cy (n * s2.csize) s2.csize o (by omega)
              rw [e1] at hset
              have hst := run_storeVar ht hc h4 (o := off + (n * s2.csize + o)) (by omega)
              have hch := Chg.row hm hk rfl h4 ⟨_, h1⟩ (l' := .sl (f2 && f) s2 (xs2.set n x')) (LExt.sl (f := f2) (f' := f2 && f) (xs := xs2) (xs' := xs2.set n x') (by simp)) (fun _ h => h) (cur.toList.take (off + (n * s2.csize + o)) ++ cy ++ cur.toList.drop (off + (n * s2.csize + o) + cy.length)).toArray
              have hex := hch.ext hm
              have hl := hch.rel hm (by
                unfold LRep
                rw [setG_self]
                refine .inr ⟨_, off, cap, _, e, h1, by simpa using h2, h3, setRow_heap w _ cur _ e _ h4, by simpa using h5, by simpa using h12, ?_, ?_⟩
                · simp only [List.size_toArray, List.length_append, List.length_take, List.length_drop, Array.length_toList]; omega
                · rw [setG_self] at hex
                  have h15 := repL_mono (fun _ _ h => hex.c h) _ _ hset
                  rw [List.length_set, List.toList_toArray]
                  have e2 := splice_in2 cur.toList cy off (xs2.length * s2.csize) (n * s2.csize + o) (by omega) (by simp; omega)
                  rw [e2]
                  exact h15)
              rw [setG_self] at hex hl
              exact ⟨_, by simp [h11, Instr.storeAt, Instr.sureAddr, hst], hl, hex⟩
          · cases h
        · cases h
      · cases h
    · cases h
  · cases h
where
  splice_in2 (l cy : List Value) (A n o : Nat) (h : o + cy.length ≤ n) (hA : A + n ≤ l.length) : (((l.take (A + o) ++ cy ++ l.drop (A + o + cy.length)).drop A).take n) = ((l.drop A).take n).take o ++ cy ++ ((l.drop A).take n).drop (o + cy.length) := by
    apply List.ext_getElem?
    intro j
    simp only [List.getElem?_take, List.getElem?_drop, List.getElem?_append, List.length_take, List.length_append, List.length_drop]
    repeat' split
    all_goals (try omega)
    all_goals (try (congr 1; omega))
    all_goals (try rfl)

end

end Go.Tk
