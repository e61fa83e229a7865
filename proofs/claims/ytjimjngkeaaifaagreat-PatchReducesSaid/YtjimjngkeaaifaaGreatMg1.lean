/- Merged: EngX P1 P4m C4a P7 P4n C4b C4d C4e C4c P4o C4f C4g C1 C7 P1r C1r C1q P2 C2 P2t. -/
import Derived.Test.YtjimjngkeaaifaaGreatEngW
import Derived.Test.YtjimjngkeaaifaaGreatTy
import Derived.Lib.SlKeysI
import Derived.Lib.SlMapMerge
import Derived.Maps.Views
import Derived.WalkKit
import Derived.Maps.OwnSet
import Derived.Maps.Range
import Derived.Maps.RangeWalk
import Derived.Shelf.SlIterI.Keys
import Derived.Shelf.SlIterI.Sorted
import Derived.Shelf.SlIterI.Collect
import Derived.Shelf.SortM.Plain
import Derived.Shelf.SortM.SortNone
import Derived.Ground.GgzProg
import Derived.Ground.SlgmProg
/- The engine, part X: walks by hand, with stretches of the run. No conditions. -/
set_option linter.unusedSimpArgs false
set_option linter.unusedVariables false
namespace Go.Tk
open Go Go.RowKit

section
variable {P : Program} {B : Bs} {G : Nat → Gh} {m : Mem} {w w' w0 : World}

/-- As MRel.re, where no one ranges. -/
theorem MRel.re2 (hm : MRel P B G m w w0) (hit : ∀ k g l, m k = some (g, l) → l.isIt = false) {fo kb : Nat → Prop} {tv : Nat → Option Obj} {kv : Nat → Option Value} {ro : Option Nat} {lb : Nat} (hlb : lb ≤ w'.heap.size) (hos : w'.os = w.os) (htp : w'.tape = w.tape) (hout : w'.output = w.output) (hsz : w.heap.size ≤ w'.heap.size)
    (hc : ∀ b, isC w b → ¬ B.fo b → w'.heap[b]? = w.heap[b]?) (hl : ∀ b, b < B.n → w'.heap[b]? = w.heap[b]?) (hfo : ∀ b, b < w.heap.size → fo b → B.fo b) (hp : ∀ b, fo b ∨ kb b → b < w'.heap.size ∧ w'.heap[b]? = tv b)
    (ho : ∀ b, fo b ∨ kb b → b < w.heap.size → (B.fo b ∨ B.kb b) ∨ ∀ k g l, m k = some (g, l) → l.mut = true → ¬ ownL (G k) l b) :
    MRel P (B.wi fo kb tv kv ro lb) G m w' w0 ∧ ∀ {V : V} {v : Value}, ERep P B G m w V v → ERep P (B.wi fo kb tv kv ro lb) G m w' V v := by
  have hdS : ∀ f b, b < w.heap.size → dS B G m f b → dS (B.wi fo kb tv kv ro lb) G m f b := fun f b hlt h => ⟨h.1, h.2.1, fun hT => h.2.2 (hfo b hlt hT)⟩
  have hK : ∀ f, Keep (dS B G m f) w w' := fun f => ⟨hsz, fun b hb hS => hc b hb hS.2.2⟩
  have hcc : ∀ {t : T} {f : Bool} {y : t.den} {cs : List Value}, (reps P t).c w (dS B G m f) y cs → (reps P t).c w' (dS (B.wi fo kb tv kv ro lb) G m f) y cs := fun h => c_keep _ h (hK _) (hdS _)
  have hvv : ∀ {t : T} {y : t.den} {cs : List Value}, (reps P t).v w (dS B G m false) y cs [] → (reps P t).v w' (dS (B.wi fo kb tv kv ro lb) G m false) y cs [] := fun h => v_keep _ h (hK _) (hdS _)
  have hown : ∀ k g l b, m k = some (g, l) → l.mut = true → ownL (G k) l b → w'.heap[b]? = w.heap[b]? := by
    intro k g l b hk hmut e
    refine hc b ?_ fun hT => hm.frn.2 k g l b hk hmut e (.inl hT)
    rcases (hm.loc k g l hk).own_isC hmut e with h | ⟨A, ys, i, rfl⟩ | rfl
    · exact h
    · have := hit k g _ hk; cases this
    · have := hit k g _ hk; cases this
  refine ⟨⟨fun hlo => ?_, Nat.le_trans hm.base hsz, ?_, hm.inj, ⟨hp, ?_⟩, hlb⟩, ?_⟩
  · have := hm.low hlo
    exact ⟨hos.trans this.os, htp.trans this.tape, hout.trans this.output, Nat.le_trans this.size hsz, fun i hi => (hl i hi).trans (this.block i hi)⟩
  · intro k g l hk
    have hl := hm.loc k g l hk
    have hb := hown k g l
    cases l with
    | box f t x =>
      obtain ⟨b, cur, e, h1, h2, h3, h4, h5⟩ := hl
      exact ⟨b, cur, e, h1, h2, h3, (hb b hk rfl ⟨0, h1⟩).trans h4, hcc h5⟩
    | sl f t xs =>
      unfold LRep at hl ⊢
      exact hl.ext (fun b o e => hb b hk rfl ⟨o, e⟩) fun _ _ h' => hcc h'
    | fz f t xs =>
      unfold LRep at hl ⊢
      exact hcc hl
    | fb f t x =>
      obtain ⟨b, h1, h2⟩ := hl
      exact ⟨b, h1, hcc (t := .ref t) h2⟩
    | nl f t xss hh hole =>
      obtain ⟨vs, h1, h2, h3, h4, h5, h6, h7⟩ := hl
      exact ⟨vs, h1.ext (fun b o e => hb b hk rfl (.inl ⟨o, e⟩)) fun _ _ h => h, h2, h3, fun n xs hn hh => (h4 n xs hn hh).ext (fun b o e => hb b hk rfl (.inr ⟨n, o, e⟩)) fun _ _ h' => hcc h', h5, h6, h7⟩
    | mv => trivial
    | rg fr A ys i => trivial
    | it A ys i => have := hit k g _ hk; cases this
    | itx => have := hit k g _ hk; cases this
  · intro k g l b hk hmut e hb
    have hlt := ((hm.loc k g l hk).own_lt hmut e).1
    rcases ho b hb hlt with h | h
    · exact hm.frn.2 k g l b hk hmut e h
    · exact h k g l hk hmut e
  · intro V
    induction V with
    | any => intro v _; trivial
    | d f t x => rintro v ⟨cs, e, h⟩; exact ⟨cs, e, hcc h⟩
    | c v0 => intro v e; exact e
    | ptr k g p => intro v h; exact h
    | own k g => intro v h; exact h
    | sub k g lo hi => intro v h; exact h
    | inn k g h n => intro v h; exact h
    | ipt k g h n p => intro v h; exact h
    | ept f t x =>
      rintro v ⟨b, o, cs, e, h1, h2, h3, h4⟩
      exact ⟨b, o, cs, e, hdS f b h2 h1, Nat.lt_of_lt_of_le h2 hsz, h3.keep (fun hb => hc b hb h1.2.2), hcc h4⟩
    | fnc g t x => rintro v ⟨caps, e, hv⟩; exact ⟨caps, e, hvv hv⟩
    | bnd g t x => rintro v ⟨caps, e, hv⟩; exact ⟨caps, e, hvv hv⟩
    | ub p q => intro v h; exact h
    | yld => intro v h; exact h
    | tup n l ih => rintro v ⟨vs, e, hn, hv⟩; exact ⟨vs, e, hn, fun i u hu => ih i (hv i u hu)⟩

/-- The bounds of a walk by hand: kb: blocks that no one changes, as they are now. -/
abbrev hB (n : Nat) (S : Nat → Prop) (kv : Nat → Option Value) (kb : Nat → Prop) (tv : Nat → Option Obj) : Bs := { n := n, S := S, j := some dJ, kv := kv, kb := kb, tv := tv }

theorem Rel.re {n0 n : Nat} {S : Nat → Prop} {kv kv' : Nat → Option Value} {kb kb' : Nat → Prop} {tv : Nat → Option Obj} {st : St} {a : Act} (hR : Rel P (hB n0 S kv kb tv) w0 n st a w) (hit : ∀ k g l, st.loc k = some (g, l) → l.isIt = false)
    (hos : w'.os = w.os) (htp : w'.tape = w.tape) (hout : w'.output = w.output) (hsz : w.heap.size ≤ w'.heap.size) (hc : ∀ b, isC w b → w'.heap[b]? = w.heap[b]?) (hl : ∀ b, b < n0 → w'.heap[b]? = w.heap[b]?)
    (hkb : ∀ b, kb' b → b < w'.heap.size) (hk2 : ∀ b, kb' b → b < w.heap.size → kb b ∨ ¬ isC w b) (hkp : ∀ t v, kv' t = some v → a.tmps.getD t undef = v) : Rel P (hB n0 S kv' kb' fun b => w'.heap[b]?) w0 n st a w' := by
  obtain ⟨G, hm, he⟩ := hR.ex
  obtain ⟨r1, r2⟩ := hm.re2 (w' := w') hit (fo := fun _ => False) (kb := kb') (tv := fun b => w'.heap[b]?) (kv := kv') (ro := none) (lb := 0) (Nat.zero_le _) hos htp hout hsz (fun b hb _ => hc b hb) hl (fun _ _ h => h) (fun b h => by
    rcases h with h | h
    · exact h.elim
    · exact ⟨hkb b h, rfl⟩) (fun b h hlt => by
    rcases h with h | h
    · exact h.elim
    · rcases hk2 b h hlt with h | h
      · exact .inl (.inr h)
      · refine .inr fun k g l hk hmut e => h ?_
        rcases (hm.loc k g l hk).own_isC hmut e with h | ⟨A, ys, i, rfl⟩ | rfl
        · exact h
        · have := hit k g _ hk; cases this
        · have := hit k g _ hk; cases this)
  have hd := hR.nd.2 rfl
  exact ⟨⟨G, r1, fun t => r2 (he t)⟩, hR.sz, by rw [hd]; exact ⟨Marks.nil _ _, fun _ => rfl⟩, hkp⟩

theorem Rel.kept {n0 n : Nat} {S : Nat → Prop} {kv : Nat → Option Value} {kb : Nat → Prop} {tv : Nat → Option Obj} {st : St} {a : Act} (hR : Rel P (hB n0 S kv kb tv) w0 n st a w) {b : Nat} (hb : kb b) : w.heap[b]? = tv b := by
  obtain ⟨G, hm, he⟩ := hR.ex
  exact (hm.frn.1 b (.inr hb)).2
theorem Rel.kept_lt {n0 n : Nat} {S : Nat → Prop} {kv : Nat → Option Value} {kb : Nat → Prop} {tv : Nat → Option Obj} {st : St} {a : Act} (hR : Rel P (hB n0 S kv kb tv) w0 n st a w) {b : Nat} (hb : kb b) : b < w.heap.size := by
  obtain ⟨G, hm, he⟩ := hR.ex
  exact (hm.frn.1 b (.inr hb)).1
/-- As the world is now. -/
theorem Rel.now {n0 n : Nat} {S : Nat → Prop} {kv : Nat → Option Value} {kb : Nat → Prop} {tv : Nat → Option Obj} {st : St} {a : Act} (hR : Rel P (hB n0 S kv kb tv) w0 n st a w) (hit : ∀ k g l, st.loc k = some (g, l) → l.isIt = false) : Rel P (hB n0 S kv kb fun b => w.heap[b]?) w0 n st a w :=
  hR.re hit rfl rfl rfl (Nat.le_refl _) (fun _ _ => rfl) (fun _ _ => rfl) (fun _ h => hR.kept_lt h) (fun _ h _ => .inl h) hR.kp
theorem Rel.low {n0 n : Nat} {S : Nat → Prop} {kv : Nat → Option Value} {kb : Nat → Prop} {tv : Nat → Option Obj} {st : St} {a : Act} (hR : Rel P (hB n0 S kv kb tv) w0 n st a w) : Below n0 w0 w := by
  obtain ⟨G, hm, he⟩ := hR.ex
  exact hm.low rfl

/-- Other temporaries. -/
theorem rel_env {n0 n : Nat} {S : Nat → Prop} {kv kv' : Nat → Option Value} {kb : Nat → Prop} {tv : Nat → Option Obj} {E E' : List (Nat × V)} {M : List (Nat × Tk.L)} {a a' : Act} (hR : Rel P (hB n0 S kv kb tv) w0 n (mkSt (E, M)) a w) (hsz : a'.tmps.size = n) (hd : a'.defers = [])
    (hkp : ∀ t v, kv' t = some v → a'.tmps.getD t undef = v)
    (hE : ∀ t U, lk E' t = some U → (lk E t = some U ∧ a'.tmps.getD t undef = a.tmps.getD t undef) ∨ ∀ G, MRel P (hB n0 S kv' kb tv) G (mkLoc M) w w0 → ERep P (hB n0 S kv' kb tv) G (mkLoc M) w U (a'.tmps.getD t undef)) :
    Rel P (hB n0 S kv' kb tv) w0 n (mkSt (E', M)) a' w := by
  obtain ⟨G, hm, he⟩ := hR.ex
  have hm' : MRel P (hB n0 S kv' kb tv) G (mkLoc M) w w0 := ⟨hm.low, hm.base, fun k g l hk => by
    have := hm.loc k g l hk
    cases l <;> exact this, hm.inj, hm.frn, hm.lbd⟩
  refine ⟨⟨G, hm', fun t => ?_⟩, hsz, by rw [hd]; exact ⟨Marks.nil _ _, fun _ => rfl⟩, hkp⟩
  show ERep P _ G (mkLoc M) w (match lk E' t with | some v => v | none => .any) _
  cases hl : lk E' t with
  | none => trivial
  | some U =>
    rcases hE t U hl with ⟨h1, h2⟩ | h
    · have h3 := he t
      have h4 : (mkSt (E, M)).env t = U := by
        show (match lk E t with | some v => v | none => .any) = U
        rw [h1]
      rw [h4] at h3
      rw [h2]
      have key : ∀ (U : Tk.V) (v : Value), ERep P (hB n0 S kv kb tv) G (mkLoc M) w U v → ERep P (hB n0 S kv' kb tv) G (mkLoc M) w U v := by
        intro U
        induction U with
        | tup n l ih => rintro v ⟨vs, e, hn, hv⟩; exact ⟨vs, e, hn, fun i u hu => ih i _ (hv i u hu)⟩
        | _ => intro v h; exact h
      exact key U _ h3
    · exact h G hm'

/-- A new variable, that is written to no more. -/
theorem rel_box {n0 n : Nat} {S : Nat → Prop} {kv : Nat → Option Value} {kb : Nat → Prop} {tv : Nat → Option Obj} {E E' : List (Nat × Tk.V)} {M : List (Nat × Tk.L)} {a a' : Act} (hR : Rel P (hB n0 S kv kb tv) w0 n (mkSt (E, M)) a w) (hit : ∀ k g l, (mkSt (E, M)).loc k = some (g, l) → l.isIt = false)
    {d : Nat} {t : T} {x : t.den} {cs : List Value} {ty : TypeId} (hcs : ∀ W S', (reps P t).c W S' x cs) (hsz : a'.tmps.size = n) (hd : a'.defers = []) (hkp : ∀ t v, kv t = some v → a'.tmps.getD t undef = v) (hdv : a'.tmps.getD d undef = .pointer (some ⟨w.heap.size, 0, none⟩))
    (hE : ∀ t' U, lk E' t' = some U → (lk E t' = some U ∧ a'.tmps.getD t' undef = a.tmps.getD t' undef) ∨ (t' = d ∧ U = .ept true t x) ∨ ∀ B G m w, ERep P B G m w U (a'.tmps.getD t' undef)) :
    Rel P (hB n0 S kv kb fun b => (w.alloc (.cells cs.toArray ty)).heap[b]?) w0 n (mkSt (E', M)) a' (w.alloc (.cells cs.toArray ty)) := by
  have hkv := hR.kp
  obtain ⟨G, hm, he⟩ := hR.ex
  have hbel : Below w.heap.size w (w.alloc (.cells cs.toArray ty)) := (Below.refl _ w).alloc (Nat.le_refl _) _
  obtain ⟨r1, r2⟩ := hm.re2 (w' := w.alloc (.cells cs.toArray ty)) hit (fo := fun _ => False) (kb := kb) (tv := fun b => (w.alloc (.cells cs.toArray ty)).heap[b]?) (kv := kv) (ro := none) (lb := 0) (Nat.zero_le _) rfl rfl rfl (by simp) (fun b hb _ => hbel.block b hb.lt) (fun b hb => hbel.block b (Nat.lt_of_lt_of_le hb hm.base)) (fun _ _ h => h) (fun b h => by
    rcases h with h | h
    · exact h.elim
    · have := (hm.frn.1 b (.inr h)).1
      exact ⟨by simp; omega, rfl⟩) (fun b h hlt => by
    rcases h with h | h
    · exact h.elim
    · exact .inl (.inr h))
  refine ⟨⟨G, r1, fun t' => ?_⟩, hsz, by rw [hd]; exact ⟨Marks.nil _ _, fun _ => rfl⟩, hkp⟩
  show ERep P _ G (mkLoc M) _ (match lk E' t' with | some v => v | none => .any) _
  cases hl : lk E' t' with
  | none => trivial
  | some U =>
    rcases hE t' U hl with ⟨h1, h2⟩ | ⟨rfl, rfl⟩ | h
    · have h3 := he t'
      have h4 : (mkSt (E, M)).env t' = U := by
        show (match lk E t' with | some v => v | none => .any) = U
        rw [h1]
      rw [h4] at h3
      rw [h2]
      exact r2 h3
    · rw [hdv]
      refine ⟨w.heap.size, 0, cs, rfl, ⟨⟨fun _ => hm.base, .inl hm.base⟩, fun k g l hk hmut e => ?_, fun h => h⟩, by simp, ?_, hcs _ _⟩
      · have := ((hm.loc k g l hk).own_lt hmut e).1
        omega
      · intro j v hj
        simp only [World.cell?, heap_alloc_new]
        simpa using hj
    · exact h _ _ _ _

/-- Behind calls and new variables: what was known, and what lies in new blocks. -/
theorem rel_new {n0 n : Nat} {S : Nat → Prop} {kv kv' : Nat → Option Value} {kb : Nat → Prop} {tv : Nat → Option Obj} {E E' : List (Nat × Tk.V)} {M : List (Nat × Tk.L)} {a a' : Act} (hR : Rel P (hB n0 S kv kb tv) w0 n (mkSt (E, M)) a w) (hit : ∀ k g l, (mkSt (E, M)).loc k = some (g, l) → l.isIt = false)
    (hbel : Below w.heap.size w w') (hsz : a'.tmps.size = n) (hd : a'.defers = []) (hkp : ∀ t v, kv' t = some v → a'.tmps.getD t undef = v)
    (hE : ∀ t U, lk E' t = some U → (∃ t2, lk E t2 = some U ∧ a'.tmps.getD t undef = a.tmps.getD t2 undef) ∨ ∀ G, (∀ b, w.heap.size ≤ b → dS (hB n0 S kv' kb fun b => w'.heap[b]?) G (mkLoc M) true b) → ERep P (hB n0 S kv' kb fun b => w'.heap[b]?) G (mkLoc M) w' U (a'.tmps.getD t undef)) :
    Rel P (hB n0 S kv' kb fun b => w'.heap[b]?) w0 n (mkSt (E', M)) a' w' := by
  obtain ⟨G, hm, he⟩ := hR.ex
  obtain ⟨r1, r2⟩ := hm.re2 (w' := w') hit (fo := fun _ => False) (kb := kb) (tv := fun b => w'.heap[b]?) (kv := kv') (ro := none) (lb := 0) (Nat.zero_le _) hbel.os hbel.tape hbel.output hbel.size (fun b hb _ => hbel.block b hb.lt) (fun b hb => hbel.block b (Nat.lt_of_lt_of_le hb hm.base)) (fun _ _ h => h) (fun b h => by
    rcases h with h | h
    · exact h.elim
    · exact ⟨Nat.lt_of_lt_of_le (hm.frn.1 b (.inr h)).1 hbel.size, rfl⟩) (fun b h hlt => by
    rcases h with h | h
    · exact h.elim
    · exact .inl (.inr h))
  refine ⟨⟨G, r1, fun t' => ?_⟩, hsz, by rw [hd]; exact ⟨Marks.nil _ _, fun _ => rfl⟩, hkp⟩
  show ERep P _ G (mkLoc M) _ (match lk E' t' with | some v => v | none => .any) _
  cases hl : lk E' t' with
  | none => trivial
  | some U =>
    rcases hE t' U hl with ⟨t2, h1, h2⟩ | h
    · have h3 := he t2
      have h4 : (mkSt (E, M)).env t2 = U := by
        show (match lk E t2 with | some v => v | none => .any) = U
        rw [h1]
      rw [h4] at h3
      rw [h2]
      exact r2 h3
    · refine h G fun b hb => ⟨⟨fun _ => Nat.le_trans hm.base hb, .inl (Nat.le_trans hm.base hb)⟩, fun k g l hk hmut e => ?_, fun h => h⟩
      have := ((hm.loc k g l hk).own_lt hmut e).1
      omega
/-- Nothing is known. -/
theorem rel_zero {n : Nat} {S : Nat → Prop} {kv : Nat → Option Value} {kb : Nat → Prop} {a : Act} (hsz : a.tmps.size = n) (hd : a.defers = []) (hkp : ∀ t v, kv t = some v → a.tmps.getD t undef = v) (hkb : ∀ b, kb b → b < w.heap.size) :
    Rel P (hB w.heap.size S kv kb fun b => w.heap[b]?) w n (mkSt ([], [])) a w :=
  ⟨⟨fun _ => gh undef none, ⟨fun _ => Below.refl _ _, Nat.le_refl _, fun k g l hk => (by cases hk), fun k k' g g' l l' b hk => (by cases hk), ⟨fun b h => by
    rcases h with h | h
    · exact h.elim
    · exact ⟨hkb b h, rfl⟩, fun k g l b hk => (by cases hk)⟩, Nat.zero_le _⟩, fun t => trivial⟩, hsz, by rw [hd]; exact ⟨Marks.nil _ _, fun _ => rfl⟩, hkp⟩
/-- A datum's value. -/
theorem rel_d {n0 n : Nat} {S : Nat → Prop} {kv : Nat → Option Value} {kb : Nat → Prop} {tv : Nat → Option Obj} {E : List (Nat × Tk.V)} {M : List (Nat × Tk.L)} {a : Act} (hR : Rel P (hB n0 S kv kb tv) w0 n (mkSt (E, M)) a w) {d : Nat} {f : Bool} {t : T} {x : t.den} (h : lk E d = some (.d f t x)) :
    ∃ (cs : List Value) (S' : Nat → Prop), a.tmps.getD d undef = mkV t cs ∧ (reps P t).c w S' x cs := by
  obtain ⟨G, hm, he⟩ := hR.ex
  have h3 := he d
  have h4 : (mkSt (E, M)).env d = .d f t x := by
    show (match lk E d with | some v => v | none => .any) = _
    rw [h]
  rw [h4] at h3
  obtain ⟨cs, e, hc⟩ := h3
  exact ⟨cs, _, e, hc⟩
theorem rel_int {n0 n : Nat} {S : Nat → Prop} {kv : Nat → Option Value} {kb : Nat → Prop} {tv : Nat → Option Obj} {E : List (Nat × Tk.V)} {M : List (Nat × Tk.L)} {a : Act} (hR : Rel P (hB n0 S kv kb tv) w0 n (mkSt (E, M)) a w) {d : Nat} {f : Bool} {x : Int} (h : lk E d = some (.d f .int x)) : a.tmps.getD d undef = .int .i64 x ∧ inI x := by
  obtain ⟨cs, S', e, hc, hi⟩ := rel_d hR h
  subst hc
  exact ⟨e, hi⟩
theorem rel_bool {n0 n : Nat} {S : Nat → Prop} {kv : Nat → Option Value} {kb : Nat → Prop} {tv : Nat → Option Obj} {E : List (Nat × Tk.V)} {M : List (Nat × Tk.L)} {a : Act} (hR : Rel P (hB n0 S kv kb tv) w0 n (mkSt (E, M)) a w) {d : Nat} {f : Bool} {x : Bool} (h : lk E d = some (.d f .bool x)) : a.eval (.tmp d) = .bool x := by
  obtain ⟨cs, S', e, hc⟩ := rel_d hR h
  have hc : cs = [.bool x] := hc
  subst hc
  exact e

/-- The beginning of a function. -/
theorem rel_start {A : T} {x : A.den} {vs : List Value} {S : Nat → Prop} {n : Nat} (hA : (isTup A && Nat.ble (arity A) n) = true) (hv : (reps P A).v w S x vs []) :
    Rel P (hB w.heap.size S (fun _ => none) (fun _ => False) fun b => w.heap[b]?) w n (mkSt (argE A x 0, [])) { tmps := vs.toArray ++ Array.replicate (n - vs.toArray.size) undef, defers := [] } w := by
  rw [Bool.and_eq_true] at hA
  have hle := Nat.le_of_ble_eq_true hA.2
  let G : Nat → Gh := fun _ => gh undef none
  obtain ⟨i1, i2, i3⟩ := argE_ok (S' := dS (hB w.heap.size S (fun _ => none) (fun _ => False) fun b => w.heap[b]?) G (mkLoc []) false) (fun b hb => ⟨⟨fun e => (by cases e), .inr hb⟩, fun k g l hk => by simp [mkLoc, lk] at hk, fun h => h⟩) A x vs 0 hA.1 hv
  refine ⟨⟨G, ⟨fun _ => Below.refl _ _, Nat.le_refl _, fun k g l hk => by simp [mkSt, mkLoc, lk] at hk, fun k k' g g' l l' b hk => by simp [mkSt, mkLoc, lk] at hk, ⟨fun b h => by rcases h with h | h <;> exact h.elim, fun k g l b hk => by simp [mkSt, mkLoc, lk] at hk⟩, Nat.zero_le _⟩, fun t => ?_⟩, by simp; omega, ⟨Marks.nil _ _, fun _ => rfl⟩, fun t v e => by cases e⟩
  show ERep P _ G (mkLoc []) w (match lk (argE A x 0) t with | some v => v | none => .any) _
  split
  · rename_i V e
    obtain ⟨_, v, f', a, y, cs, j1, rfl, rfl, j4, rfl⟩ := i3 t V e
    refine ⟨cs, ?_, j4⟩
    have hlt : t < vs.length := (List.getElem?_eq_some_iff.1 j1).1
    have j1 : vs[t]? = some (mkV a cs) := j1
    have e1 : (vs.toArray ++ Array.replicate (n - vs.toArray.size) undef)[t]? = some (mkV a cs) := by
      rw [Array.getElem?_append_left (by simpa using hlt)]
      simpa using j1
    simp only [Array.getD_eq_getD_getElem?, e1, Option.getD_some]
  · trivial

/-- The run from here to a label; what follows is by hand. -/
theorem eng_to {cx : Cx} (hk : Cok P cx) (hmix : P.follows .mixedOrders = true) (hx : cx.X.itf = none) (hpn : cx.X.pan = none) {code : Code} {n0 : Nat} {S : Nat → Prop} {kv : Nat → Option Value} {kb : Nat → Prop} {tv : Nat → Option Obj} {st : St} {a : Act} {Q : Exit → Act → World → Prop} (ly : List (Pth × Lay))
    (hR : Rel P (hB n0 S kv kb tv) w0 cx.n st a w) (hok : (okC cx.n code && noRF code) = true) (hkv : ∀ t ∈ wrs code, kv t = none)
    (h : ∀ Λ : Pth → Lst → Prop, Λ = Sem P (hB n0 S kv kb tv) w0 cx.n code Q → Wl cx (LyL ly) Λ code (fun _ _ => False) st) : code.wpIn (Fw none) 0 P Q a w := by
  rw [Bool.and_eq_true] at hok
  have := (sound hk hmix code (hB n0 S kv kb tv) w0 (LyL ly) (fun _ _ => False) Q hok.1 ⟨hkv, .inl hok.2, fun fr e => (by rw [hx] at e; cases e), .inl hpn⟩ (fun e st a w h => h.elim) fun p hp => by rw [hpn] at hp; cases hp).1 st a w (h _ rfl) hR
  exact this
/-- The run through a stretch of code without loops. -/
theorem eng_thru {cx : Cx} (hk : Cok P cx) (hmix : P.follows .mixedOrders = true) (hx : cx.X.itf = none) (hpn : cx.X.pan = none) {code : Code} {n0 : Nat} {S : Nat → Prop} {kv : Nat → Option Value} {kb : Nat → Prop} {tv : Nat → Option Obj} {st : St} {a : Act} {Q : Exit → Act → World → Prop} (ly : Lay) (x : Lst)
    (hR : Rel P (hB n0 S kv kb tv) w0 cx.n st a w) (hok : (okC cx.n code && noRF code) = true) (hkv : ∀ t ∈ wrs code, kv t = none)
    (h : Wl cx (fun _ => none) (fun _ _ => False) code (fun e st => match e with | .normal => canK ly (fun y => y = x) st | _ => False) st) (hQ : ∀ a w, Rel P (hB n0 S kv kb tv) w0 cx.n (mkSt x) a w → Q .normal a w) : code.wpIn (Fw none) 0 P Q a w := by
  rw [Bool.and_eq_true] at hok
  have hs := sound hk hmix code (hB n0 S kv kb tv) w0 (fun _ => none) (fun e st => match e with | .normal => canK ly (fun y => y = x) st | _ => False) Q hok.1 ⟨hkv, .inl hok.2, fun fr e => (by rw [hx] at e; cases e), .inl hpn⟩ (fun e st a w h hR => by
    cases e <;> first | exact h.elim | skip
    obtain ⟨y, rfl, hR2⟩ := canK_ok h hR
    exact hQ a w hR2) fun p hp => by rw [hpn] at hp; cases hp
  refine hs.1 st a w ?_ hR
  exact Wl_mono _ _ _ _ _ _ _ (fun _ _ h => h.elim) (fun _ _ h => h) h

/-- An own slice, for a result. -/
theorem rel_own {n0 n : Nat} {S : Nat → Prop} {kv : Nat → Option Value} {kb : Nat → Prop} {tv : Nat → Option Obj} {E : List (Nat × V)} {M : List (Nat × Tk.L)} {a : Act} (hR : Rel P (hB n0 S kv kb tv) w0 n (mkSt (E, M)) a w) {d k : Nat} {t : T} {xs : List t.den}
    (hE : lk E d = some (.own k 0)) (hM : lk M k = some (.sl true t xs)) : ∃ ob : Option (Nat × Nat), repOwn ((reps P t).c w fun b => n0 ≤ b ∧ ¬ b ∈ (ob.map (·.1)).toList) t.csize w (fun _ => True) xs (a.tmps.getD d undef) ob ∧ ∀ b ∈ (ob.map (·.1)).toList, n0 ≤ b := by
  obtain ⟨G, hm, he⟩ := hR.ex
  have hl : mkLoc M k = some (0, .sl true t xs) := by
    show (match lk M k with | some l => some (0, l) | none => none) = _
    rw [hM]
  have h1 := he d
  have h2 : (mkSt (E, M)).env d = .own k 0 := by
    show (match lk E d with | some v => v | none => .any) = _
    rw [hE]
  rw [h2] at h1
  obtain ⟨g', l, q1, _, q2⟩ := h1
  have q1 : mkLoc M k = some (g', l) := q1
  rw [hl] at q1
  cases q1
  have h3 : a.tmps.getD d undef = (G k).hdr := q2 rfl
  have h4 : repOwn ((reps P t).c w (dS (hB n0 S kv kb tv) G (mkLoc M) true)) t.csize w (fun b => n0 ≤ b) xs (G k).hdr (G k).blk := hm.loc k 0 _ hl
  rw [h3]
  refine ⟨(G k).blk, ?_, ?_⟩
  · rcases h4 with h4 | ⟨b, off, cap, cur, e, g1, g2, g3, g4, g5, g6, g7, g8⟩
    · exact .inl h4
    · refine .inr ⟨b, off, cap, cur, e, g1, g2, trivial, g4, g5, g6, g7, repL_mono (fun _ _ h => c_mono _ h fun b' _ hb => ⟨hb.1.1 rfl, fun hin => ?_⟩) _ _ g8⟩
      rw [g1] at hin
      simp at hin
      exact hb.2.1 k 0 _ hl rfl ⟨off, by rw [g1, hin]⟩
  · intro b hb
    rcases h4 with ⟨_, _, h4⟩ | ⟨b', off, cap, cur, e, g1, g2, g3, g4, g5, g6, g7, g8⟩
    · rw [h4] at hb; simp at hb
    · rw [g1] at hb
      simp at hb
      rw [hb]; exact g3

/-! ### A region's operations, in their order -/
variable {ops : Array Oper} {Q : Exit → Act → World → Prop} {rest : List Nat} {a : Act}
theorem sp_val {k : Nat} {o : Oper} {v : Value} {w1 : World} (ho : ops[k]? = some o) (hg : o.guard = none) (hr : (execOp a.eval o).run P w = .ok (.value v) w1) (h : wpOpsIn (Fw none) 0 P ops Q rest (a.put o.dst v) w1) :
    wpOpsIn (Fw none) 0 P ops Q (k :: rest) a w := by
  rw [wpOpsIn_cons]
  have hw : Region.wanted o (yielded ops a.tmps) = true := by unfold Region.wanted; rw [hg]
  unfold wpOpIn
  rw [ho]
  simp only [hw, if_true]
  refine ⟨fun _ _ => trivial, ?_⟩
  show Oper.uponIn (Fw none) 0 P o a _ Q ((o.semAt none a.eval).run P w)
  rw [Oper.semAt_none, hr]
  exact upon_in h
theorem sp_call {k : Nat} {o : Oper} {f : FuncId} {args : Array Value} (ho : ops[k]? = some o) (hg : o.guard = none) (hr : (execOp a.eval o).run P w = .ok (.enter f args) w)
    (h : Calls P f args w fun e w1 => ∃ v, e = .returned v ∧ wpOpsIn (Fw none) 0 P ops Q rest (a.put o.dst v) w1) : wpOpsIn (Fw none) 0 P ops Q (k :: rest) a w := by
  rw [wpOpsIn_cons]
  have hw : Region.wanted o (yielded ops a.tmps) = true := by unfold Region.wanted; rw [hg]
  unfold wpOpIn
  rw [ho]
  simp only [hw, if_true]
  refine ⟨fun _ _ => trivial, ?_⟩
  show Oper.uponIn (Fw none) 0 P o a _ Q ((o.semAt none a.eval).run P w)
  rw [Oper.semAt_none, hr]
  refine upon_in (r := .ok (.enter f args) w) ?_
  refine Calls.mono h ?_
  rintro e w1 ⟨v, rfl, h⟩
  exact h

/-- A stretch of a region by the run. -/
theorem stretch_wp {cx : Cx} (hk : Cok P cx) {st : St} (hR : Rel P B w0 cx.n st a w) (hro : B.ro = none) (k c : Nat) (hkv : ∀ o ∈ (ops.toList.drop k).take c, ∀ d, o.dst = some d → B.kv d = none) (hd : dstsOK cx.n ((ops.toList.drop k).take c) = true) (hlen : ((ops.toList.drop k).take c).length = c)
    {Φ : St → Prop} (h : runG cx ops.toList ((ops.toList.drop k).take c) st [] fun st _ => Φ st) (hQ : ∀ st a w, Φ st → Rel P B w0 cx.n st a w → wpOpsIn (Fw none) 0 P ops Q rest a w) : wpOpsIn (Fw none) 0 P ops Q (List.range' k c ++ rest) a w := by
  obtain ⟨τ, _, h⟩ := runL_lex (R := Real P B w0 cx.n) (Pd := fun o => ∀ d, o.dst = some d → B.kv d = none) (fun st o e tu hp => real_yop hk hp) _ st [] 0 (fun _ => ([], [])) hkv ⟨a, w, hR⟩ hd rfl (runL_of_runG _ _ _ _ h)
  have key : ∀ (l : List Oper) (k : Nat) (st : St) (a : Act) (w : World), (∀ o ∈ l, ∀ d, o.dst = some d → B.kv d = none) → (∀ j, j < l.length → l[j]? = ops.toList[k + j]?) → Rel P B w0 cx.n st a w → lexA cx ops.toList τ (fun st => Φ st) l (0 + (k - k)) st ∨ True → True := fun _ _ _ _ _ _ _ _ _ => trivial
  clear key
  have key : ∀ (l : List Oper) (k i : Nat) (st : St) (a : Act) (w : World), (∀ o ∈ l, ∀ d, o.dst = some d → B.kv d = none) → (∀ j, j < l.length → l[j]? = ops.toList[k + j]?) → Rel P B w0 cx.n st a w → lexA cx ops.toList τ (fun st => Φ st) l i st → wpOpsIn (Fw none) 0 P ops Q (List.range' k l.length ++ rest) a w := by
    intro l
    induction l with
    | nil => intro k i st a w _ _ hR h; exact hQ _ _ _ h hR
    | cons o l ih =>
      intro k i st a w hkv hl hR h
      obtain ⟨e, hy, h⟩ := h
      rw [List.length_cons, List.range'_succ, List.cons_append, wpOpsIn_cons]
      have ho : ops.toList[k]? = some o := by simpa using (hl 0 (by simp)).symm
      have ho2 : ops.toList.toArray[k]? = some o := by simpa using ho
      have := yop_wp hk (Q := Q) (hkv o (by simp)) hR hy ho2 (K := fun a w => wpOpsIn (Fw none) 0 P ops Q (List.range' (k + 1) l.length ++ rest) a w) fun a' w' hR' => ih (k + 1) (i + 1) _ _ _ (fun o ho => hkv o (by simp [ho])) (fun j hj => by
        have := hl (j + 1) (by simp; omega)
        simpa [Nat.add_assoc, Nat.add_comm 1 j] using this) hR' h
      rw [hro] at this
      simpa using this
  have := key ((ops.toList.drop k).take c) k 0 st a w hkv (fun j hj => by
    rw [List.getElem?_take, List.getElem?_drop]
    rw [hlen] at hj
    rw [if_pos hj]) hR h
  rw [hlen] at this
  exact this

/-! ### Loops -/
theorem loop_upX {F : Fence} {c : Code} {n : Nat} (A : Nat → Act → World → Prop) (last : ∀ a W, A n a W → c.wpIn F 0 P (Exit.then (fun _ _ => False) Q) a W)
    (step : ∀ m a W, m < n → A m a W → c.wpIn F 0 P (Exit.then (A (m + 1)) Q) a W) : ∀ m, m ≤ n → ∀ a W, A m a W → LoopAt F P c Q a W := by
  have key : ∀ d m, m + d = n → ∀ a W, A m a W → LoopAt F P c Q a W := by
    intro d
    induction d with
    | zero =>
      intro m hm a W h
      obtain rfl : m = n := by omega
      refine loopAt_round (wpIn_mono (last a W h) fun e a' W' he => ?_)
      cases e <;> first | exact he.elim | exact he
    | succ d ih =>
      intro m hm a W h
      refine loopAt_round (wpIn_mono (step m a W (by omega) h) fun e a' W' he => ?_)
      cases e <;> first | exact ih (m + 1) (by omega) _ _ he | exact he
  exact fun m hm a W h => key (n - m) m (by omega) a W h
theorem loop_downX {F : Fence} {c : Code} (A : Nat → Act → World → Prop) (step : ∀ m a W, A m a W → c.wpIn F 0 P (Exit.then (fun a W => ∃ m', m' < m ∧ A m' a W) Q) a W) : ∀ m a W, A m a W → LoopAt F P c Q a W := by
  intro m
  induction m using Nat.strongRecOn with
  | ind m ih =>
    intro a W h
    refine loopAt_round (wpIn_mono (step m a W h) fun e a' W' he => ?_)
    cases e <;> first | (obtain ⟨m', h1, h2⟩ := he; exact ih m' h1 _ _ h2) | exact he
/-! ### Regions, one operation after another, by hand -/
def ql (P : Program) : List Oper → (Act → World → Prop) → (Exit → Act → World → Prop) → Act → World → Prop
  | [], K, _, a, w => K a w
  | o :: l, K, Q, a, w => o.upon P a (fun a' w' => ql P l K Q a' w') Q ((execOp a.eval o).run P w)
theorem ql_mono {P : Program} {o : Oper} {a : Act} {K K' : Act → World → Prop} {Q : Exit → Act → World → Prop} {r : Result Next} (h : ∀ a w, K a w → K' a w) (hr : o.upon P a K Q r) : o.upon P a K' Q r := by
  cases r with
  | halt x w => cases x <;> exact hr
  | ok x w =>
    cases x <;> simp only [Oper.upon] at hr ⊢
    case value v => exact h _ _ hr
    case skip => exact h _ _ hr
    case defer d => exact h _ _ hr
    case enter f args =>
      refine hr.mono ?_
      intro e w' he
      cases e with
      | returned v => exact h _ _ he
      | panicked c => exact he
      | outgrown => exact he
    case row row args =>
      intro c cs
      obtain ⟨v, w', hv, hs⟩ := hr c cs
      exact ⟨v, w', h _ _ hv, hs⟩
theorem ql_ops {P : Program} {ops : List Oper} {Q : Exit → Act → World → Prop} : ∀ (l : List Oper) (k : Nat) (a : Act) (w : World), (∀ j, l[j]? = ops[k + j]?) → (∀ o ∈ l, o.guard = none) → ql P l (Q .normal) Q a w →
    wpOpsIn (Fw none) 0 P ops.toArray Q (List.range' k l.length) a w
  | [], k, a, w, _, _, h => by
    have h : Q .normal a w := h
    simpa [wpOpsIn] using h
  | o :: l, k, a, w, hl, hg, h => by
    rw [List.length_cons, List.range'_succ, wpOpsIn_cons]
    have ho : ops[k]? = some o := by simpa using (hl 0).symm
    have hl' : ∀ j, l[j]? = ops[k + 1 + j]? := fun j => by have := hl (j + 1); simpa [Nat.add_assoc, Nat.add_comm 1 j] using this
    have hw : Region.wanted o (yielded ops.toArray a.tmps) = true := by unfold Region.wanted; rw [hg o (by simp)]
    unfold wpOpIn
    rw [show ops.toArray[k]? = some o by simpa using ho]
    simp only [hw, if_true]
    refine ⟨fun _ _ => trivial, ?_⟩
    show Oper.uponIn (Fw none) 0 P o a _ Q ((o.semAt none a.eval).run P w)
    rw [Oper.semAt_none]
    exact upon_in (ql_mono (fun a' w' h' => ql_ops l (k + 1) a' w' hl' (fun q hq => hg q (by simp [hq])) h') h)
theorem ql_region {P : Program} {ops : Array Oper} {id : Nat} {Q : Exit → Act → World → Prop} {a : Act} {w : World} (hg : (ops.toList.all fun o => o.guard.isNone) = true) (h : ql P ops.toList (Q .normal) Q a w) : (Code.region id ops false).wpIn (Fw none) 0 P Q a w := by
  refine wpIn_region ?_
  have := ql_ops (P := P) (ops := ops.toList) (Q := Q) ops.toList 0 a w (by simp) (fun o ho => by simpa using List.all_eq_true.1 hg o ho) h
  simpa [List.range_eq_range'] using this


/-- The first operations by hand, the others as wpOpsIn. -/
theorem ql_pre {P : Program} {ops : Array Oper} {id : Nat} {Q : Exit → Act → World → Prop} {a : Act} {w : World} (c : Nat) (hc : c ≤ ops.size) (hg : ((ops.toList.take c).all fun o => o.guard.isNone) = true) (h : ql P (ops.toList.take c) (fun a w => wpOpsIn (Fw none) 0 P ops Q (List.range' c (ops.size - c)) a w) Q a w) : (Code.region id ops false).wpIn (Fw none) 0 P Q a w := by
  refine wpIn_region ?_
  have key : ∀ (l : List Oper) (k : Nat) (a : Act) (w : World), k + l.length = c → (∀ j, j < l.length → l[j]? = ops[k + j]?) → (∀ o ∈ l, o.guard = none) → ql P l (fun a w => wpOpsIn (Fw none) 0 P ops Q (List.range' c (ops.size - c)) a w) Q a w →
      wpOpsIn (Fw none) 0 P ops Q (List.range' k l.length ++ List.range' c (ops.size - c)) a w := by
    intro l
    induction l with
    | nil => intro k a w _ _ _ h; exact h
    | cons o l ih =>
      intro k a w hk hl hg h
      rw [List.length_cons, List.range'_succ, List.cons_append, wpOpsIn_cons]
      have ho : ops[k]? = some o := by simpa using (hl 0 (by simp)).symm
      have hw : Region.wanted o (yielded ops a.tmps) = true := by unfold Region.wanted; rw [hg o (by simp)]
      unfold wpOpIn
      rw [ho]
      simp only [hw, if_true]
      refine ⟨fun _ _ => trivial, ?_⟩
      show Oper.uponIn (Fw none) 0 P o a _ Q ((o.semAt none a.eval).run P w)
      rw [Oper.semAt_none]
      exact upon_in (ql_mono (fun a' w' h' => ih (k + 1) a' w' (by simp only [List.length_cons] at hk; omega) (fun j hj => by
        have := hl (j + 1) (by simp; omega)
        simpa [Nat.add_assoc, Nat.add_comm 1 j] using this) (fun q hq => hg q (by simp [hq])) h') h)
  have hlen : (ops.toList.take c).length = c := by rw [List.length_take, Array.length_toList]; exact Nat.min_eq_left hc
  have := key (ops.toList.take c) 0 a w (by omega) (fun j hj => by
    rw [hlen] at hj
    rw [List.getElem?_take, if_pos hj]
    simp) (fun o ho => by simpa using List.all_eq_true.1 hg o ho) h
  rw [hlen] at this
  have e : List.range' 0 c ++ List.range' c (ops.size - c) = List.range ops.size := by
    rw [List.range_eq_range']
    have := List.range'_append_1 (s := 0) (m := c) (n := ops.size - c)
    rw [Nat.zero_add] at this
    rw [this]
    congr 1
    omega
  rw [e] at this
  exact this
end
end Go.Tk
/- Plain facts: lists, numbers, and what the functions of layer 1 (code) give. No program in sight. -/
set_option linter.unusedSimpArgs false
set_option linter.unusedVariables false
namespace Go.Tk
open Go Go.RowKit

/-- From the end down: for loops that count up. -/
theorem upto {n : Nat} {Q : Nat → Prop} (last : Q n) (step : ∀ i, i < n → Q (i + 1) → Q i) : ∀ i, i ≤ n → Q i := by
  intro i hi
  obtain ⟨k, rfl⟩ : ∃ k, n = i + k := ⟨n - i, by omega⟩
  clear hi
  induction k generalizing i with
  | zero => exact last
  | succ k ih =>
    have e : i + (k + 1) = i + 1 + k := by omega
    rw [e] at last step
    exact step i (by omega) (ih (i + 1) last step)

theorem all_take_next {α : Type} {p : α → Bool} {l : List α} {i : Nat} (d : α) (h : i < l.length) (h1 : (l.take i).all p = true) (h2 : p (l.getD i d) = true) : (l.take (i + 1)).all p = true := by
  rw [take_snoc d h, List.all_append, h1]; simp only [List.all_cons, h2]; rfl

theorem all_false_at {α : Type} {p : α → Bool} {l : List α} {i : Nat} (d : α) (h : i < l.length) (h2 : p (l.getD i d) = false) : l.all p = false := by
  rw [List.all_eq_false]
  refine ⟨l[i], List.getElem_mem h, ?_⟩
  simp [List.getD_eq_getElem?_getD, h] at h2
  simp [h2]

theorem mem_getD {α : Type} {d : α} {l : List α} {i : Nat} (h : i < l.length) : l.getD i d ∈ l := by
  simp [List.getD_eq_getElem?_getD, h]

theorem findIdx?_at {α : Type} {p : α → Bool} {l : List α} {i : Nat} (d : α) (h : i < l.length) (h1 : (l.take i).any p = false) (h2 : p (l.getD i d) = true) : l.findIdx? p = some i := by
  rw [List.findIdx?_eq_some_iff_getElem]
  refine ⟨h, by simpa [List.getD_eq_getElem?_getD, h] using h2, fun j hj => ?_⟩
  rw [List.any_eq_false] at h1
  have := h1 (l[j]) (by rw [List.mem_take_iff_getElem]; exact ⟨j, by omega, rfl⟩)
  simpa using this

theorem any_take_next {α : Type} {p : α → Bool} {l : List α} {i : Nat} (d : α) (h : i < l.length) (h1 : (l.take i).any p = false) (h2 : p (l.getD i d) = false) : (l.take (i + 1)).any p = false := by
  rw [take_snoc d h, List.any_append, h1]; simp only [List.any_cons, h2]; rfl

/-- The place of the first element with a property, as Go gives it. -/
def idxF {α : Type} (p : α → Bool) (l : List α) : Int := match l.findIdx? p with | some i => (i : Int) | none => -1

theorem idxF_any {α : Type} (p : α → Bool) (l : List α) : decide (idxF p l ≥ 0) = l.any p := by
  unfold idxF
  cases h : l.findIdx? p with
  | none =>
    rw [List.findIdx?_eq_none_iff] at h
    have : l.any p = false := by rw [List.any_eq_false]; intro x hx; simp [h x hx]
    rw [this]; rfl
  | some i =>
    rw [List.findIdx?_eq_some_iff_getElem] at h
    obtain ⟨h1, h2, _⟩ := h
    have : l.any p = true := List.any_eq_true.2 ⟨_, List.getElem_mem h1, h2⟩
    rw [this]
    simp

theorem idxF_at {α : Type} {p : α → Bool} {l : List α} {i : Nat} (d : α) (h : i < l.length) (h1 : (l.take i).any p = false) (h2 : p (l.getD i d) = true) : idxF p l = i := by
  unfold idxF; rw [findIdx?_at d h h1 h2]

theorem idxF_none {α : Type} {p : α → Bool} {l : List α} (h1 : l.any p = false) : idxF p l = -1 := by
  unfold idxF
  rw [List.findIdx?_eq_none_iff.2 (by intro x hx; rw [List.any_eq_false] at h1; simpa using h1 x hx)]

theorem any_not_all {α : Type} (p : α → Bool) (l : List α) : (l.any fun x => !p x) = !l.all p := by
  induction l with
  | nil => rfl
  | cons a l ih => simp [ih]

theorem beq_dec (a b : Int) : (a == b) = decide (a = b) := by by_cases h : a = b <;> simp [h]

theorem take_eq_next {α : Type} {a b : List α} {i : Nat} (d : α) (h : i < a.length) (hl : a.length = b.length) (h1 : a.take i = b.take i) (h2 : a.getD i d = b.getD i d) : a.take (i + 1) = b.take (i + 1) := by
  rw [take_snoc d h, take_snoc d (by omega), h1, h2]

theorem ne_at {α : Type} {a b : List α} {i : Nat} (d : α) (h2 : a.getD i d ≠ b.getD i d) : a ≠ b := fun e => h2 (by rw [e])

/-! ### Layer 1 -/
def within (n lo hi : Int) : Bool := decide (lo ≤ n) && decide (n ≤ hi)
def isReg (n : Int) : Bool := within n 0 3
def argErr (b : Bool) : Int := bif b then 0 else 1
def validLine (l : Lin) : Bool := match l with
  | (op, t, a, b, _) =>
    if op = 0 then decide (t = 0 ∧ a = 0 ∧ b = 0)
    else if op = 1 then isReg t && within a (-9) 9 && decide (b = 0)
    else if op = 2 then isReg t && isReg a && decide (b = 0)
    else if op = 3 ∨ op = 4 ∨ op = 5 ∨ op = 6 then isReg t && isReg a && isReg b
    else if op = 7 then within t 1 8 && isReg a && isReg b
    else false
def validP (p : List Lin) : Int := if p.length > 8 then 3 else argErr (p.all validLine)
def isVal (n : Int) : Bool := within n (-999) 999
def validS (s : List Int) : Bool := decide (s.length = 4) && s.all isVal

theorem within_iff {n lo hi : Int} : within n lo hi = true ↔ lo ≤ n ∧ n ≤ hi := by
  simp [within]

theorem argErr_zero {b : Bool} : argErr b = 0 ↔ b = true := by cases b <;> simp [argErr]

theorem validLine_regs {op t x y : Int} (h1 : validLine (op, t, x, y, ()) = true) : (2 ≤ op ∧ op ≤ 7 → 0 ≤ x ∧ x ≤ 3) ∧ (3 ≤ op ∧ op ≤ 7 → 0 ≤ y ∧ y ≤ 3) ∧ (1 ≤ op ∧ op ≤ 6 → 0 ≤ t ∧ t ≤ 3) ∧ (op = 7 → 1 ≤ t ∧ t ≤ 8) ∧ (op = 1 → -9 ≤ x ∧ x ≤ 9) ∧ 0 ≤ op ∧ op ≤ 7 := by
  unfold validLine at h1
  simp only at h1
  split at h1
  · omega
  · split at h1
    · simp [isReg, within] at h1; omega
    · split at h1
      · simp [isReg, within] at h1; omega
      · split at h1
        · simp [isReg, within] at h1; omega
        · split at h1
          · simp [isReg, within] at h1; omega
          · cases h1

theorem validP_ok {p : List Lin} (h : validP p = 0) : p.length ≤ 8 ∧ p.all validLine = true := by
  unfold validP at h
  split at h
  · omega
  · refine ⟨by omega, ?_⟩
    cases hh : p.all validLine
    · rw [hh] at h; exact absurd h (by decide)
    · rfl

end Go.Tk
/- Plain facts of layer 4: tables as ascending lists, and the kit's data of maps. No program in sight. -/
set_option linter.unusedSimpArgs false
set_option linter.unusedVariables false
set_option linter.unnecessarySimpa false
namespace Go.Tk
open Go Go.RowKit

section
variable {L : Type}
def Asc (E : List (Int × L)) : Prop := E.Pairwise fun p q => p.1 < q.1
def putE : List (Int × L) → Int → L → List (Int × L)
  | [], k, l => [(k, l)]
  | (a, m) :: E, k, l => if k < a then (k, l) :: (a, m) :: E else if k = a then (k, l) :: E else (a, m) :: putE E k l
def lookE : List (Int × L) → Int → Option L
  | [], _ => none
  | (a, m) :: E, k => if a = k then some m else lookE E k
def mergeE (E F : List (Int × L)) : List (Int × L) := F.foldl (fun E p => putE E p.1 p.2) E

theorem putE_mem {E : List (Int × L)} {k : Int} {l : L} : ∀ {p}, p ∈ putE E k l → p.1 = k ∨ p ∈ E := by
  induction E with
  | nil => intro p hp; simp [putE] at hp; simp [hp]
  | cons a E ih =>
    obtain ⟨a, m⟩ := a
    intro p hp
    unfold putE at hp
    split at hp
    · rcases List.mem_cons.1 hp with rfl | hp
      · exact .inl rfl
      · exact .inr hp
    · split at hp
      · rcases List.mem_cons.1 hp with rfl | hp
        · exact .inl rfl
        · exact .inr (by simp [hp])
      · rcases List.mem_cons.1 hp with rfl | hp
        · exact .inr (by simp)
        · rcases ih hp with h | h
          · exact .inl h
          · exact .inr (by simp [h])
theorem putE_val {k : Int} {l : L} : ∀ {E : List (Int × L)} {p}, p ∈ putE E k l → p = (k, l) ∨ p ∈ E
  | [], p, hp => by simp [putE] at hp; simp [hp]
  | (a, m) :: E, p, hp => by
    unfold putE at hp
    split at hp
    · rcases List.mem_cons.1 hp with rfl | hp
      · exact .inl rfl
      · exact .inr hp
    · split at hp
      · rcases List.mem_cons.1 hp with rfl | hp
        · exact .inl rfl
        · exact .inr (by simp [hp])
      · rcases List.mem_cons.1 hp with rfl | hp
        · exact .inr (by simp)
        · rcases putE_val hp with h | h
          · exact .inl h
          · exact .inr (by simp [h])
theorem putE_asc {k : Int} {l : L} : ∀ {E : List (Int × L)}, Asc E → Asc (putE E k l)
  | [], _ => by simp [putE, Asc]
  | (a, m) :: E, h => by
    obtain ⟨h1, h2⟩ := List.pairwise_cons.1 h
    unfold putE
    split
    · rename_i hk
      refine List.pairwise_cons.2 ⟨fun p hp => ?_, h⟩
      rcases List.mem_cons.1 hp with rfl | hp
      · exact hk
      · have := h1 p hp
        show k < p.1
        have : a < p.1 := this
        omega
    · split
      · rename_i hk
        refine List.pairwise_cons.2 ⟨fun p hp => ?_, h2⟩
        have : a < p.1 := h1 p hp
        show k < p.1
        omega
      · refine List.pairwise_cons.2 ⟨fun p hp => ?_, putE_asc h2⟩
        rcases putE_mem hp with e | hp
        · show a < p.1
          omega
        · exact h1 p hp
theorem look_none {k : Int} : ∀ {E : List (Int × L)}, (∀ p ∈ E, p.1 ≠ k) → lookE E k = none
  | [], _ => rfl
  | (a, m) :: E, h => by
    unfold lookE
    rw [if_neg (h (a, m) (by simp))]
    exact look_none fun p hp => h p (by simp [hp])
theorem look_mem {k : Int} {l : L} : ∀ {E : List (Int × L)}, Asc E → (lookE E k = some l ↔ (k, l) ∈ E)
  | [], _ => by simp [lookE]
  | (a, m) :: E, h => by
    obtain ⟨h1, h2⟩ := List.pairwise_cons.1 h
    unfold lookE
    by_cases e : a = k
    · rw [if_pos e]
      subst e
      constructor
      · intro q; cases q; simp
      · intro q
        rcases List.mem_cons.1 q with q | q
        · cases q; rfl
        · have : a < a := h1 (a, l) q
          omega
    · rw [if_neg e, look_mem h2]
      constructor
      · intro q; simp [q]
      · intro q
        rcases List.mem_cons.1 q with q | q
        · cases q; exact absurd rfl e
        · exact q
theorem look_put {k j : Int} {l : L} : ∀ {E : List (Int × L)}, Asc E → lookE (putE E k l) j = if k = j then some l else lookE E j
  | [], _ => by simp [putE, lookE]
  | (a, m) :: E, h => by
    obtain ⟨h1, h2⟩ := List.pairwise_cons.1 h
    unfold putE
    split
    · rfl
    · split
      · rename_i hk
        subst hk
        simp only [lookE]
        by_cases e : k = j
        · rw [if_pos e, if_pos e]
        · rw [if_neg e, if_neg e, if_neg e]
      · rename_i g1 g2
        simp only [lookE]
        rw [look_put h2]
        by_cases e : a = j
        · rw [if_pos e, if_pos e, if_neg (by omega)]
        · rw [if_neg e, if_neg e]
theorem asc_ext : ∀ {E F : List (Int × L)}, Asc E → Asc F → (∀ k, lookE E k = lookE F k) → E = F
  | [], [], _, _, _ => rfl
  | [], (b, n) :: F, _, _, h => by have := h b; simp [lookE] at this
  | (a, m) :: E, [], _, _, h => by have := h a; simp [lookE] at this
  | (a, m) :: E, (b, n) :: F, hE, hF, h => by
    obtain ⟨e1, e2⟩ := List.pairwise_cons.1 hE
    obtain ⟨f1, f2⟩ := List.pairwise_cons.1 hF
    have ha : (a, m) ∈ (b, n) :: F := (look_mem hF).1 (by rw [← h a]; simp [lookE])
    have hb : (b, n) ∈ (a, m) :: E := (look_mem hE).1 (by rw [h b]; simp [lookE])
    have hab : (a, m) = (b, n) := by
      rcases List.mem_cons.1 ha with q | q
      · exact q
      · rcases List.mem_cons.1 hb with r | r
        · exact r.symm
        · have q1 : b < a := f1 _ q
          have q2 : a < b := e1 _ r
          omega
    cases hab
    congr 1
    refine asc_ext e2 f2 fun k => ?_
    have hk := h k
    simp only [lookE] at hk
    by_cases e : a = k
    · rw [look_none (fun p hp => by have : a < p.1 := e1 p hp; omega), look_none (fun p hp => by have : a < p.1 := f1 p hp; omega)]
    · rw [if_neg e, if_neg e] at hk; exact hk
theorem merge_asc : ∀ {F E : List (Int × L)}, Asc E → Asc (mergeE E F)
  | [], _, h => h
  | p :: F, E, h => merge_asc (F := F) (putE_asc h)
theorem look_merge {k : Int} : ∀ {F E : List (Int × L)}, Asc E → Asc F → lookE (mergeE E F) k = match lookE F k with | some l => some l | none => lookE E k
  | [], _, _, _ => rfl
  | (a, m) :: F, E, hE, hF => by
    obtain ⟨f1, f2⟩ := List.pairwise_cons.1 hF
    show lookE (mergeE (putE E a m) F) k = _
    rw [look_merge (putE_asc hE) f2, look_put hE]
    simp only [lookE]
    by_cases e : a = k
    · rw [if_pos e, if_pos e, look_none fun p hp => by have : a < p.1 := f1 p hp; omega]
    · rw [if_neg e, if_neg e]
theorem putE_len (k : Int) (l : L) : ∀ E : List (Int × L), (putE E k l).length ≤ E.length + 1
  | [] => by simp [putE]
  | (a, m) :: E => by
    unfold putE
    split
    · simp
    · split
      · simp
      · have := putE_len k l E
        simp only [List.length_cons]
        omega
theorem merge_len : ∀ F E : List (Int × L), (mergeE E F).length ≤ E.length + F.length
  | [], E => by simp [mergeE]
  | p :: F, E => by
    have := merge_len F (putE E p.1 p.2)
    have h2 := putE_len p.1 p.2 E
    show (mergeE (putE E p.1 p.2) F).length ≤ _
    simp only [List.length_cons]
    omega
/-- A key above all others goes to the end. -/
theorem putE_end {k : Int} {l : L} : ∀ {E : List (Int × L)}, (∀ p ∈ E, p.1 < k) → putE E k l = E ++ [(k, l)]
  | [], _ => rfl
  | (a, m) :: E, h => by
    have h1 : a < k := h (a, m) (by simp)
    unfold putE
    rw [if_neg (by omega), if_neg (by omega), putE_end fun p hp => h p (by simp [hp])]
    rfl

/-! ### The kit's data -/
variable (enc : L → Value)
def ent (p : Int × L) : Lit × DataW Value := (.int .i64 p.1, .held (enc p.2))
def dm (E : List (Int × L)) : DataW Value := .map (E.map (ent enc))
theorem same_int (a b : Int) : (Lit.int .i64 a).sameKey (.int .i64 b) = decide (a = b) := by simp [Lit.sameKey]
theorem before_int (a b : Int) : (Lit.int .i64 a).before (.int .i64 b) = decide (a < b) := by simp [Lit.before]
theorem filt_gt {k : Int} : ∀ {E : List (Int × L)}, (∀ p ∈ E, p.1 ≠ k) → (E.map (ent enc)).filter (fun p => !p.1.sameKey (.int .i64 k)) = E.map (ent enc)
  | [], _ => rfl
  | p :: E, h => by
    rw [List.map_cons, List.filter_cons_of_pos (by simp [ent, same_int, h p (by simp)]), filt_gt fun q hq => h q (by simp [hq])]
theorem dm_put {k : Int} {l : L} : ∀ {E : List (Int × L)}, Asc E → (dm enc E).put (.int .i64 k) (.held (enc l)) = dm enc (putE E k l)
  | [], _ => rfl
  | (a, m) :: E, h => by
    obtain ⟨h1, h2⟩ := List.pairwise_cons.1 h
    have ih := dm_put (k := k) (l := l) h2
    unfold dm DataW.put at ih ⊢
    simp only [DataW.map.injEq] at ih ⊢
    unfold putE
    by_cases e : k = a
    · subst e
      rw [if_neg (by omega), if_pos rfl, List.map_cons, List.filter_cons_of_neg (by simp [ent, same_int]), filt_gt enc fun p hp => by have : k < p.1 := h1 p hp; omega]
      cases E with
      | nil => rfl
      | cons q E =>
        have : k < q.1 := h1 q (by simp)
        rw [List.map_cons]
        unfold DataW.insert
        rw [if_pos (by simp [ent, before_int, this])]
        rfl
    · rw [List.map_cons, List.filter_cons_of_pos (by simp [ent, same_int]; omega)]
      unfold DataW.insert
      by_cases g : k < a
      · rw [if_pos g, if_pos (by simp [ent, before_int, g]), filt_gt enc fun p hp => by have : a < p.1 := h1 p hp; omega]
        rfl
      · rw [if_neg g, if_neg e, if_neg (by simp [ent, before_int]; omega), ih]
        rfl
theorem dm_has (E : List (Int × L)) (k : Int) : Maps.has (dm enc E) (.int .i64 k) = (lookE E k).isSome := by
  unfold dm
  rw [Maps.has_eq]
  induction E with
  | nil => rfl
  | cons p E ih =>
    obtain ⟨a, m⟩ := p
    rw [List.map_cons, List.any_cons, ih]
    simp only [lookE, ent, same_int]
    by_cases e : a = k <;> simp [e]
theorem dm_at {k : Int} (z : DataW Value) : ∀ (E : List (Int × L)), (dm enc E).atKey (.int .i64 k) z = match lookE E k with | some l => .held (enc l) | none => z
  | [] => rfl
  | (a, m) :: E => by
    have ih := dm_at z E (k := k)
    unfold dm DataW.atKey at ih ⊢
    simp only [List.map_cons, List.find?_cons, ent, same_int, lookE]
    by_cases e : a = k
    · simp [e]
    · simp only [e, decide_false, if_false]
      exact ih
theorem dm_size (E : List (Int × L)) : Maps.size (dm enc E) = E.length := by simp [dm, Maps.size_eq]
theorem dm_keys (E : List (Int × L)) : intKeys (dm enc E) = E.map (·.1) := by
  show (E.map (ent enc)).map _ = _
  rw [List.map_map]
  rfl
theorem dm_merge : ∀ (F E : List (Int × L)), Asc E → Lib.mergeD (dm enc E) (dm enc F) = dm enc (mergeE E F)
  | [], _, _ => rfl
  | p :: F, E, h => by
    have := dm_merge F (putE E p.1 p.2) (putE_asc h)
    show List.foldl (fun D (p : Lit × DataW Value) => D.put p.1 p.2) ((dm enc E).put (.int .i64 p.1) (.held (enc p.2))) (F.map (ent enc)) = _
    rw [dm_put enc h]
    exact this
end
end Go.Tk
/- Tables of patches, in a world. -/
set_option linter.unusedSimpArgs false
set_option linter.unusedVariables false
set_option linter.unnecessarySimpa false
namespace Go.Tk
open Go Go.RowKit

def lnV (l : Lin) : Value := .agg #[.int .i64 l.1, .int .i64 l.2.1, .int .i64 l.2.2.1, .int .i64 l.2.2.2.1]
def edV (e : Edt) : Value := .agg #[.int .i64 e.1, .int .i64 e.2.1.1, .int .i64 e.2.1.2.1, .int .i64 e.2.1.2.2.1, .int .i64 e.2.1.2.2.2.1]
def inL (l : Lin) : Prop := inI l.1 ∧ inI l.2.1 ∧ inI l.2.2.1 ∧ inI l.2.2.2.1
theorem lnV_inj {a b : Lin} (h : lnV a = lnV b) : a = b := by
  obtain ⟨a1, a2, a3, a4, ⟨⟩⟩ := a
  obtain ⟨b1, b2, b3, b4, ⟨⟩⟩ := b
  simp [lnV] at h
  obtain ⟨rfl, rfl, rfl, rfl⟩ := h
  rfl
/-- How a line reads. -/
def encR (v : Value) : Option (DataW Value × List MemPlace) := match v with
  | .agg ⟨[.int .i64 a, .int .i64 b, .int .i64 c, .int .i64 d]⟩ => if (-9223372036854775808 ≤ a ∧ a ≤ 9223372036854775807) ∧ (-9223372036854775808 ≤ b ∧ b ≤ 9223372036854775807) ∧ (-9223372036854775808 ≤ c ∧ c ≤ 9223372036854775807) ∧ (-9223372036854775808 ≤ d ∧ d ≤ 9223372036854775807) then some (.held v, []) else none
  | _ => none
theorem encR_ln {l : Lin} (h : inL l) : encR (lnV l) = some (.held (lnV l), []) := by
  obtain ⟨h1, h2, h3, h4⟩ := h
  unfold inI at h1 h2 h3 h4
  simp only [encR, lnV]
  rw [if_pos ⟨h1, h2, h3, h4⟩]
theorem encR_inv {v : Value} {y : DataW Value × List MemPlace} (h : encR v = some y) : ∃ l : Lin, inL l ∧ v = lnV l ∧ y = (.held (lnV l), []) := by
  unfold encR at h
  split at h
  · rename_i a b c d
    split at h
    · rename_i hb
      cases h
      exact ⟨(a, b, c, d, ()), by unfold inL inI; exact hb, rfl, rfl⟩
    · cases h
  · cases h
theorem key_wf {n : Int} (h : inI n) : (Lit.int .i64 n).wf = true := by
  unfold inI at h
  have e1 : IntKind.i64.min = -9223372036854775808 := by decide
  have e2 : IntKind.i64.max = 9223372036854775807 := by decide
  show (decide (IntKind.i64.min ≤ n) && decide (n ≤ IntKind.i64.max)) = true
  rw [e1, e2, Bool.and_eq_true, decide_eq_true_eq, decide_eq_true_eq]
  exact h
theorem kI_u : Go.Proofs.Tryz.prog.underlying 3 = some (.int .i64) := by kernel_rfl
theorem tT_u : Go.Proofs.Tryz.prog.underlying 76 = some (.map 3 32) := by kernel_rfl
theorem kI : Maps.Keyed Go.Proofs.Tryz.prog 3 := Maps.int_keyed kI_u
theorem key_mk {n : Int} (h : inI n) : keyOf Go.Proofs.Tryz.prog 3 (.int .i64 n) = some (.int .i64 n) := Maps.keyOf_int_mk kI_u (key_wf h)

/-- Block b is the table E. -/
structure ownsT (w : World) (b : Nat) (E : List (Int × Lin)) : Prop where
  own : w.ownsMap Go.Proofs.Tryz.prog 3 encR b E.length (dm lnV E)
  asc : Asc E
  ok : ∀ p ∈ E, inI p.1 ∧ inL p.2
theorem own_tight {w : World} {b n : Nat} {E : List (Int × Lin)} (h : w.ownsMap Go.Proofs.Tryz.prog 3 encR b n (dm lnV E)) : w.ownsMap Go.Proofs.Tryz.prog 3 encR b E.length (dm lnV E) := by
  obtain ⟨es, clock, hb, F, hs, hD⟩ := h
  refine ⟨es, clock, hb, F, ?_, hD⟩
  have := congrArg Maps.size hD
  rw [dm_size] at this
  rw [this, Maps.size_eq, length_read]
  exact Nat.le_refl _
theorem ownsT_new (w : World) : ownsT (w.alloc (.map #[] 0)) w.heap.size [] := ⟨World.ownsMap_made w _ _ _, List.Pairwise.nil, by simp⟩
theorem ownsT.kept {w w' : World} {b : Nat} {E : List (Int × Lin)} (h : ownsT w b E) (hb : w'.heap[b]? = w.heap[b]?) : ownsT w' b E := by
  obtain ⟨⟨es, clock, h1, h2⟩, h3, h4⟩ := h
  exact ⟨⟨es, clock, hb.trans h1, h2⟩, h3, h4⟩
theorem ownsT.lt {w : World} {b : Nat} {E : List (Int × Lin)} (h : ownsT w b E) : b < w.heap.size := h.own.lt
theorem ownsT.put {w : World} {b : Nat} {E : List (Int × Lin)} (h : ownsT w b E) (hn : E.length ≤ 1000000) {k : Int} {l : Lin} (hk : inI k) (hl : inL l) :
    ∃ w', (Instr.mapUpdate 76 (.map (some b)) (.int .i64 k) (lnV l)).run Go.Proofs.Tryz.prog w = .ok () w' ∧ ownsT w' b (putE E k l) ∧ w.grownBy w' (some b) := by
  obtain ⟨w', hr, h1, h2⟩ := h.own.update kI tT_u (by unfold maxLen; omega) (key_mk hk) (encR_ln hl)
  rw [dm_put lnV h.asc] at h1
  refine ⟨w', hr, ⟨own_tight h1, putE_asc h.asc, fun p hp => ?_⟩, h2⟩
  rcases putE_val hp with rfl | hp
  · exact ⟨hk, hl⟩
  · exact h.ok p hp
theorem ownsT.len {w : World} {b : Nat} {E : List (Int × Lin)} (h : ownsT w b E) (ty : TypeId) : (Builtin.len_ #[76] ty #[.map (some b)]).run Go.Proofs.Tryz.prog w = .ok (.int .i64 E.length) w := by
  have := h.own.len tT_u ty
  rwa [dm_size] at this
def zL : Lin := (0, 0, 0, 0, ())
theorem zL_run (w : World) : (zeroValue 32).run Go.Proofs.Tryz.prog w = .ok (lnV zL) w := by kernel_rfl
theorem zL_in : inL zL := by unfold inL inI zL; decide
theorem ownsT.look {w : World} {b : Nat} {E : List (Int × Lin)} (h : ownsT w b E) {k : Int} (hk : inI k) :
    (Instr.lookup 76 (.map (some b)) (.int .i64 k) false).run Go.Proofs.Tryz.prog w = .ok (lnV ((lookE E k).getD zL)) w := by
  obtain ⟨v, ps, hr, hv⟩ := h.own.lookup kI tT_u (zL_run w) (encR_ln zL_in) (key_mk hk)
  obtain ⟨l, hl, rfl, e⟩ := encR_inv hv
  rw [dm_at] at e
  rw [hr]
  have e := congrArg Prod.fst e
  simp only at e
  cases hx : lookE E k with
  | none =>
    rw [hx] at e
    cases lnV_inj (DataW.held.inj e)
    rfl
  | some m =>
    rw [hx] at e
    cases lnV_inj (DataW.held.inj e)
    rfl
theorem ownsT.look_ok {w : World} {b : Nat} {E : List (Int × Lin)} (h : ownsT w b E) {k : Int} (hk : inI k) :
    (Instr.lookup 76 (.map (some b)) (.int .i64 k) true).run Go.Proofs.Tryz.prog w = .ok (.tuple #[lnV ((lookE E k).getD zL), .bool (lookE E k).isSome]) w := by
  obtain ⟨v, ps, hr, hv⟩ := h.own.look_ok kI tT_u (zL_run w) (encR_ln zL_in) (key_mk hk)
  obtain ⟨l, hl, rfl, e⟩ := encR_inv hv
  rw [dm_at] at e
  rw [hr, dm_has]
  have e := congrArg Prod.fst e
  simp only at e
  cases hx : lookE E k with
  | none =>
    rw [hx] at e
    cases lnV_inj (DataW.held.inj e)
    rfl
  | some m =>
    rw [hx] at e
    cases lnV_inj (DataW.held.inj e)
    rfl
end Go.Tk
/- Plain facts: patches and histories (layers 4, 7). No program in sight. -/
set_option linter.unusedSimpArgs false
set_option linter.unusedVariables false
set_option linter.unnecessarySimpa false
namespace Go.Tk
open Go Go.RowKit

def edOK (x : List Edt) (i : Nat) : Bool := !(decide ((x.getD i tEd.dflt).1 < 0) || decide ((x.getD i tEd.dflt).1 ≥ 8) || (decide (i > 0) && decide ((x.getD (i - 1) tEd.dflt).1 ≥ (x.getD i tEd.dflt).1)) || !(validLine (x.getD i tEd.dflt).2.1))
def okTo (x : List Edt) : Nat → Bool
  | 0 => true
  | i + 1 => okTo x i && edOK x i
def validX (x : List Edt) : Int := if x.length > 4 then 3 else argErr (okTo x x.length)
theorem okTo_false {x : List Edt} {i : Nat} (h : edOK x i = false) : ∀ n, i < n → okTo x n = false
  | 0, hn => by omega
  | n + 1, hn => by
    unfold okTo
    by_cases e : i = n
    · subst e; rw [h, Bool.and_false]
    · rw [okTo_false h n (by omega), Bool.false_and]
theorem okTo_at {x : List Edt} : ∀ n, okTo x n = true → ∀ i, i < n → edOK x i = true
  | 0, _, i, hi => by omega
  | n + 1, h, i, hi => by
    unfold okTo at h
    rw [Bool.and_eq_true] at h
    by_cases e : i = n
    · subst e; exact h.2
    · exact okTo_at n h.1 i (by omega)
def far (n : Nat) (x : List Edt) : Bool := x.any fun e => decide (e.1 ≥ (n : Int))
def errH (n : Nat) : List (List Edt) → Int
  | [] => 0
  | x :: hs => if validX x = 0 then (if far n x = true then 4 else errH n hs) else validX x
def err7 (p : List Lin) (h : List (List Edt)) : Int := if validP p = 0 then (if h.length > 8 then 3 else errH p.length h) else validP p
def playX (p : List Lin) (x : List Edt) : List Lin := x.foldl (fun o e => o.set e.1.toNat e.2.1) p
def playH (p : List Lin) (h : List (List Edt)) : List Lin := h.foldl playX p
theorem playX_len (x : List Edt) : ∀ p, (playX p x).length = p.length := by
  induction x with
  | nil => intro p; rfl
  | cons e x ih => intro p; show (playX (p.set e.1.toNat e.2.1) x).length = _; rw [ih, List.length_set]
theorem playH_len (h : List (List Edt)) : ∀ p, (playH p h).length = p.length := by
  induction h with
  | nil => intro p; rfl
  | cons x h ih => intro p; show (playH (playX p x) h).length = _; rw [ih, playX_len]
theorem playX_take (p : List Lin) (x : List Edt) {i : Nat} (hi : i < x.length) : playX p (x.take (i + 1)) = (playX p (x.take i)).set (x.getD i tEd.dflt).1.toNat (x.getD i tEd.dflt).2.1 := by
  unfold playX
  rw [take_snoc tEd.dflt hi, List.foldl_append]; rfl
theorem playH_take (p : List Lin) (h : List (List Edt)) {i : Nat} (hi : i < h.length) : playH p (h.take (i + 1)) = playX (playH p (h.take i)) (h.getD i []) := by
  unfold playH
  rw [take_snoc [] hi, List.foldl_append]; rfl
/-- What is known of a history that is right. -/
def okH (n : Nat) (h : List (List Edt)) : Prop := ∀ x ∈ h, ∀ e ∈ x, 0 ≤ e.1 ∧ e.1 < n
theorem validX_ok {x : List Edt} (h : validX x = 0) : x.length ≤ 4 ∧ ∀ e ∈ x, 0 ≤ e.1 ∧ e.1 < 8 := by
  unfold validX at h
  split at h
  · omega
  · refine ⟨by omega, fun e he => ?_⟩
    obtain ⟨i, hi, rfl⟩ := List.getElem_of_mem he
    have g := okTo_at _ (argErr_zero.1 h) i hi
    unfold edOK at g
    have ee : x.getD i tEd.dflt = x[i] := by simp [List.getD_eq_getElem?_getD, hi]
    rw [ee] at g
    simp at g
    omega
theorem errH_ok {n : Nat} : ∀ {h : List (List Edt)}, errH n h = 0 → okH n h ∧ ∀ x ∈ h, x.length ≤ 4
  | [], _ => ⟨fun x hx => by simp at hx, fun x hx => by simp at hx⟩
  | x :: hs, e => by
    unfold errH at e
    split at e
    · rename_i hv
      split at e
      · cases e
      · rename_i hf
        obtain ⟨i1, i2⟩ := errH_ok e
        obtain ⟨v1, v2⟩ := validX_ok hv
        refine ⟨fun y hy q hq => ?_, fun y hy => ?_⟩
        · rcases List.mem_cons.1 hy with rfl | hy
          · have := List.any_eq_false.1 (Bool.eq_false_iff.2 hf) q hq
            have h2 := v2 q hq
            simp at this
            omega
          · exact i1 y hy q hq
        · rcases List.mem_cons.1 hy with rfl | hy
          · exact v1
          · exact i2 y hy
    · rename_i hv; exact absurd e hv
theorem err7_ok {p : List Lin} {h : List (List Edt)} (e : err7 p h = 0) : validP p = 0 ∧ h.length ≤ 8 ∧ okH p.length h ∧ ∀ x ∈ h, x.length ≤ 4 := by
  unfold err7 at e
  split at e
  · rename_i hv
    split at e
    · cases e
    · obtain ⟨a, b⟩ := errH_ok e
      exact ⟨hv, by omega, a, b⟩
  · rename_i hv; exact absurd e hv
end Go.Tk
/- Plain facts of layer 4: a patch as a table. No program in sight. -/
set_option linter.unusedSimpArgs false
set_option linter.unusedVariables false
set_option linter.unnecessarySimpa false
namespace Go.Tk
open Go Go.RowKit
def readE (x : List Edt) : List (Int × Lin) := x.map fun e => (e.1, e.2.1)
def inX (n : Nat) (x : List Edt) : Prop := ∀ e ∈ x, 0 ≤ e.1 ∧ e.1 < n
theorem look_in {E : List (Int × Lin)} {k : Int} {l : Lin} : lookE E k = some l → (k, l) ∈ E := by
  induction E with
  | nil => intro h; cases h
  | cons p E ih =>
    obtain ⟨a, m⟩ := p
    intro h
    unfold lookE at h
    split at h
    · rename_i e
      subst e
      cases h
      simp
    · simp [ih h]
theorem play_look : ∀ (x : List Edt) (p : List Lin) (i : Nat) (d : Lin), Asc (readE x) → inX p.length x → i < p.length → (playX p x).getD i d = match lookE (readE x) i with | some l => l | none => p.getD i d
  | [], _, _, _, _, _, _ => rfl
  | e :: x, p, i, d, ha, hx, hi => by
    obtain ⟨h1, h2⟩ := List.pairwise_cons.1 ha
    have he := hx e (by simp)
    have ih := play_look x (p.set e.1.toNat e.2.1) i d h2 (fun q hq => by rw [List.length_set]; exact hx q (by simp [hq])) (by rw [List.length_set]; exact hi)
    show (playX (p.set e.1.toNat e.2.1) x).getD i d = match lookE ((e.1, e.2.1) :: readE x) i with | some l => l | none => p.getD i d
    rw [ih, show lookE ((e.1, e.2.1) :: readE x) i = if e.1 = (i : Int) then some e.2.1 else lookE (readE x) i from rfl]
    by_cases g : e.1 = (i : Int)
    · rw [if_pos g, look_none fun q hq => by have : e.1 < q.1 := h1 q hq; omega]
      simp only
      rw [show e.1.toNat = i by omega, List.getD_eq_getElem?_getD, List.getElem?_set_self hi]
      rfl
    · rw [if_neg g]
      have : (p.set e.1.toNat e.2.1).getD i d = p.getD i d := by
        rw [List.getD_eq_getElem?_getD, List.getElem?_set_ne (by omega), ← List.getD_eq_getElem?_getD]
      rw [this]
end Go.Tk
/- patch.read. -/
set_option linter.unusedSimpArgs false
set_option linter.unusedVariables false
set_option linter.unnecessarySimpa false
set_option maxRecDepth 10000
set_option maxHeartbeats 4000000
namespace Go.Tk
open Go Go.RowKit

/-! ### The elements of a patch -/
abbrev tX : T := .sl tEd
def inE (e : Edt) : Prop := inI e.1 ∧ inL e.2.1
theorem ed_cs {w : World} {S : Nat → Prop} {e : Edt} {cs : List Value} (h : (reps Go.Proofs.Tryz.prog tEd).c w S e cs) : cs = [.int .i64 e.1, .int .i64 e.2.1.1, .int .i64 e.2.1.2.1, .int .i64 e.2.1.2.2.1, .int .i64 e.2.1.2.2.2.1] ∧ inE e := by
  obtain ⟨c1, c2, rfl, ⟨rfl, h1⟩, c3, c4, rfl, ⟨d1, d2, rfl, ⟨rfl, h2⟩, d3, d4, rfl, ⟨rfl, h3⟩, d5, d6, rfl, ⟨rfl, h4⟩, d7, d8, rfl, ⟨rfl, h5⟩, h6⟩, h7⟩ := h
  have e8 : d8 = [] := h6
  have e4 : c4 = [] := h7
  subst e8
  subst e4
  exact ⟨rfl, h1, h2, h3, h4, h5⟩
theorem repL_nth {α : Type} {R : α → List Value → Prop} {n : Nat} (d : α) (hn : ∀ x cs, R x cs → cs.length = n) : ∀ (xs : List α) (cs : List Value) (i : Nat), repL R xs cs → i < xs.length → R (xs.getD i d) ((cs.drop (i * n)).take n)
  | [], _, _, _, hi => by simp at hi
  | x :: xs, cs, 0, ⟨c1, c2, e, h1, h2⟩, _ => by
    have := hn _ _ h1
    subst e
    rw [Nat.zero_mul, List.drop_zero, List.take_left' this]
    exact h1
  | x :: xs, cs, i + 1, ⟨c1, c2, e, h1, h2⟩, hi => by
    have h3 := hn _ _ h1
    subst e
    have := repL_nth d hn xs c2 i h2 (by simpa using hi)
    have e : (c1 ++ c2).drop ((i + 1) * n) = c2.drop (i * n) := by
      rw [show (i + 1) * n = c1.length + i * n by rw [h3, Nat.add_mul]; omega]
      simp
    rw [e]
    exact this
theorem cell_same {W w : World} {b o : Nat} (h : W.heap[b]? = w.heap[b]?) : W.cell? ⟨b, o, none⟩ = w.cell? ⟨b, o, none⟩ := by
  simp only [World.cell?]; rw [h]
theorem ed_load {w : World} {S : Nat → Prop} {x : List Edt} {xv : Value} (h : (reps Go.Proofs.Tryz.prog tX).c w S x [xv]) : ∃ ao cap, xv = .slice ao x.length cap ∧ x.length ≤ 140737488355328 ∧ (∀ e ∈ x, inE e) ∧ (x ≠ [] → ∃ b off, ao = some ⟨b, off, none⟩ ∧ b < w.heap.size ∧ (∀ i : Nat, i < x.length → ∀ W : World,
    (Instr.indexAt 23 xv (.int .i64 i)).run Go.Proofs.Tryz.prog W = .ok (.pointer (some ⟨b, off + i * 5, none⟩)) W) ∧ (∀ i : Nat, i < x.length → ∀ W : World, W.heap[b]? = w.heap[b]? → ∃ e, e = x.getD i tEd.dflt ∧
    W.cell? ⟨b, off + i * 5, none⟩ = some (.int .i64 e.1) ∧ W.cell? ⟨b, off + i * 5 + 1, none⟩ = some (.int .i64 e.2.1.1) ∧ W.cell? ⟨b, off + i * 5 + 2, none⟩ = some (.int .i64 e.2.1.2.1) ∧ W.cell? ⟨b, off + i * 5 + 3, none⟩ = some (.int .i64 e.2.1.2.2.1) ∧ W.cell? ⟨b, off + i * 5 + 4, none⟩ = some (.int .i64 e.2.1.2.2.2.1))) := by
  obtain ⟨v, e, ao, cap, rfl, h1, h2, h3⟩ := h
  cases e
  have h3 : x = [] ∨ ∃ b off cs, ao = some ⟨b, off, none⟩ ∧ S b ∧ b < w.heap.size ∧ cellsAt w b off cs ∧ repL ((reps Go.Proofs.Tryz.prog tEd).c w S) x cs := h3
  have hn : ∀ (e : Edt) cs, (reps Go.Proofs.Tryz.prog tEd).c w S e cs → cs.length = 5 := fun e cs h => by rw [(ed_cs h).1]; rfl
  refine ⟨ao, cap, rfl, h2, fun e he => ?_, fun hne => ?_⟩
  · rcases h3 with rfl | ⟨b, off, cs, _, _, _, _, h4⟩
    · cases he
    · obtain ⟨i, hi, ei⟩ := List.mem_iff_getElem.1 he
      have := (ed_cs (repL_nth tEd.dflt hn x cs i h4 hi)).2
      rw [List.getD_eq_getElem?_getD, List.getElem?_eq_getElem hi] at this
      rw [← ei]; exact this
  · rcases h3 with rfl | ⟨b, off, cs, rfl, _, hb, hc, h4⟩
    · exact absurd rfl hne
    · refine ⟨b, off, rfl, hb, fun i hi W => ?_, fun i hi W hW => ⟨_, rfl, ?_⟩⟩
      · have hty : (tys Go.Proofs.Tryz.prog tX).ty 23 := (tyB_ok Go.Proofs.Tryz.prog tX).1 23 (by kernel_rfl)
        obtain ⟨e, t1, t2⟩ := ty_sl hty
        have := run_index_sl (w := W) t1 t2 (b := b) (off := off) (len := x.length) (cap := cap) (n := (i : Int)) (by omega) (by omega)
        rw [Int.toNat_natCast] at this
        exact this
      · have h5 := (ed_cs (repL_nth tEd.dflt hn x cs i h4 hi)).1
        have key : ∀ j v, j < 5 → ((cs.drop (i * 5)).take 5)[j]? = some v → W.cell? ⟨b, off + i * 5 + j, none⟩ = some v := by
          intro j v hj e
          rw [List.getElem?_take, if_pos hj, List.getElem?_drop] at e
          have := hc _ _ e
          rw [cell_same hW, Nat.add_assoc]
          exact this
        exact ⟨key 0 _ (by omega) (by rw [h5]; rfl), key 1 _ (by omega) (by rw [h5]; rfl), key 2 _ (by omega) (by rw [h5]; rfl), key 3 _ (by omega) (by rw [h5]; rfl), key 4 _ (by omega) (by rw [h5]; rfl)⟩

theorem read_call {w : World} {S : Nat → Prop} {x : List Edt} {xv : Value} (h : (reps Go.Proofs.Tryz.prog tX).c w S x [xv]) (hl : x.length ≤ 1000) (ha : Asc (readE x)) :
    Calls Go.Proofs.Tryz.prog 70 #[xv] w fun e w' => e = .returned (.map (some w.heap.size)) ∧ ownsT w' w.heap.size (readE x) ∧ Below w.heap.size w w' := by
  obtain ⟨ao, cap, rfl, hlen, hx, hld⟩ := ed_load h
  go_enter Go.Proofs.Tryz.func70, Go.Proofs.Tryz.ntmps70
  refine (wpIn_wide (n := 0)).1 ?_
  show Code.wpIn (Fw none) 0 _ _ _ _ _
  refine wpIn_seq (ql_region rfl ?_)
  simp [ql, go_sem, Exit.then]
  have hmk : ∀ W : World, (Instr.makeMap 76 none).run Go.Proofs.Tryz.prog W = .ok (.map (some W.heap.size)) (W.alloc (.map #[] 0)) := fun _ => rfl
  refine wpIn_seq (ql_region rfl ?_)
  simp [ql, go_sem, Exit.then, hmk]
  refine wpIn_seq (wpIn_seq (ql_region rfl ?_))
  simp [ql, go_sem, Exit.then]
  refine wpIn_block (wp_loopAt ?_)
  obtain ⟨A, hA⟩ : ∃ A : Nat → Act → World → Prop, A = fun m a W => ∃ x0 x1 x2 x4 x5 x6 x10 x11 x12 x13 x14 x15 x16 x17 x18 x19 : Value, a = ⟨#[x0, x1, x2, .map (some w.heap.size), x4, x5, x6, .slice ao x.length cap, .int .i64 x.length, .int .i64 m, x10, x11, x12, x13, x14, x15, x16, x17, x18, x19], []⟩ ∧ ownsT W w.heap.size (readE (x.take m)) ∧ Below w.heap.size w W := ⟨_, rfl⟩
  refine loop_upX (n := x.length) A ?_ ?_ 0 (by omega) _ _ (by rw [hA]; exact ⟨_, _, _, _, _, _, _, _, _, _, _, _, _, _, _, _, rfl, ownsT_new w, (Below.refl _ w).alloc (Nat.le_refl _) _⟩)
  · intro a W hh
    rw [hA] at hh
    obtain ⟨x0, x1, x2, x4, x5, x6, x10, x11, x12, x13, x14, x15, x16, x17, x18, x19, rfl, hT, hb⟩ := hh
    refine wpIn_seq (ql_region rfl ?_)
    simp [ql, go_sem, Exit.then]
    refine wpIn_seq (wpIn_cond_false (by simp [Act.eval]) (wpIn_exit ?_))
    simp only [Exit.then, Exit.inBlock, if_true]
    refine wpIn_seq (ql_region rfl ?_)
    simp [ql, go_sem, Exit.then]
    refine wpIn_ret ?_
    rw [List.take_length] at hT
    exact ⟨rfl, _, results_tmp rfl _ _ _, rfl, hT, hb⟩
  · intro m a W hm hh
    rw [hA] at hh
    obtain ⟨x0, x1, x2, x4, x5, x6, x10, x11, x12, x13, x14, x15, x16, x17, x18, x19, rfl, hT, hb⟩ := hh
    obtain ⟨bx, off, rfl, hbx, hix, hlx⟩ := hld (by intro e; rw [e] at hm; simp at hm)
    have hix := hix m hm
    obtain ⟨e, he, c0, c1, c2, c3, c4⟩ := hlx m hm W (hb.block bx hbx)
    clear hld hlx h
    refine wpIn_seq (ql_region rfl ?_)
    simp [ql, go_sem, Exit.then]
    refine wpIn_seq (wpIn_cond_true (by simp [Act.eval]; omega) (wpIn_skip ?_))
    simp only [Exit.then]
    refine wpIn_seq (wpIn_block (wpIn_seq (ql_region rfl ?_)))
    simp [ql, go_sem, Exit.then, hix, c0, c1, c2, c3, c4]
    have hin : inE e := by rw [he]; exact hx _ (mem_getD hm)
    have hEl : (readE (x.take m)).length ≤ 1000000 := by simp [readE]; omega
    obtain ⟨W2, hr, hT2, hg⟩ := (hT.kept (Below.heap_alloc W (.cells #[.int .i64 e.1, .int .i64 e.2.1.1, .int .i64 e.2.1.2.1, .int .i64 e.2.1.2.2.1, .int .i64 e.2.1.2.2.2.1] 61) _ hT.lt)).put hEl hin.1 hin.2
    simp only [lnV] at hr
    refine ql_region rfl ?_
    simp [ql, go_sem, Exit.then, Exit.inBlock, hr]
    refine ql_region rfl ?_
    simp [ql, go_sem, Exit.then, Exit.inBlock]
    rw [show IntKind.i64.wrap ((m : Int) + 1) = ((m + 1 : Nat) : Int) from wrap_in (by unfold inI; omega), hA]
    have hE : putE (readE (x.take m)) e.1 e.2.1 = readE (x.take (m + 1)) := by
      rw [take_snoc tEd.dflt hm, ← he]
      unfold readE
      rw [List.map_append]
      refine putE_end fun p hp => ?_
      have ha2 : Asc (readE (x.take (m + 1))) := by
        unfold readE Asc at ha ⊢
        rw [List.map_take]
        exact ha.sublist (List.take_sublist _ _)
      rw [take_snoc tEd.dflt hm, ← he] at ha2
      unfold readE Asc at ha2
      rw [List.map_append] at ha2
      exact (List.pairwise_append.1 ha2).2.2 p hp (e.1, e.2.1) (by simp)
    rw [hE] at hT2
    refine ⟨_, _, _, _, _, _, _, _, _, _, _, _, _, _, _, _, rfl, hT2, ?_⟩
    have hlb := hb.size
    have h1 : Below w.heap.size w (W.alloc (.cells #[.int .i64 e.1, .int .i64 e.2.1.1, .int .i64 e.2.1.2.1, .int .i64 e.2.1.2.2.1, .int .i64 e.2.1.2.2.2.1] 61)) := hb.alloc hlb _
    exact ⟨hg.os.trans h1.os, hg.tape.trans h1.tape, hg.output.trans h1.output, Nat.le_trans h1.size hg.size, fun i hi => (hg.block i (Nat.lt_of_lt_of_le hi h1.size) (fun e => by have := Option.some.inj e; omega)).trans (h1.block i hi)⟩
end Go.Tk
/- maps.Copy at tables of patches. -/
set_option linter.unusedSimpArgs false
set_option linter.unusedVariables false
set_option linter.unnecessarySimpa false
set_option maxRecDepth 10000
set_option maxHeartbeats 400000
namespace Go.Tk
open Go Go.RowKit
theorem arr16 (x : Array Value) (h : x.size = 16) : ∃ x0 x1 x2 x3 x4 x5 x6 x7 x8 x9 x10 x11 x12 x13 x14 x15 : Value, x = #[x0, x1, x2, x3, x4, x5, x6, x7, x8, x9, x10, x11, x12, x13, x14, x15] := by
  obtain ⟨l⟩ := x
  match l, h with
  | [x0, x1, x2, x3, x4, x5, x6, x7, x8, x9, x10, x11, x12, x13, x14, x15], _ => exact ⟨_, _, _, _, _, _, _, _, _, _, _, _, _, _, _, _, rfl⟩
/-- What comes out of the ranging. -/
theorem next_ent {w : World} {b r n : Nat} {E : List (Int × Lin)} {left : Lit → Bool} {cnt : Nat} (hok : ∀ p ∈ E, inI p.1 ∧ inL p.2) (h : w.ranges Go.Proofs.Tryz.prog 3 encR b r n (dm lnV E) left cnt) (ty : TypeId) :
    (cnt = 0 ∧ (∀ kl, left kl = false) ∧ (Instr.next (.pointer (some ⟨r, 0, none⟩)) false ty).run Go.Proofs.Tryz.prog w = .ok (.tuple #[.bool false]) w) ∨
    ∃ (k : Int) (l : Lin) (w' : World) (cnt' : Nat), lookE E k = some l ∧ (k, l) ∈ E ∧ inI k ∧ inL l ∧ (Instr.next (.pointer (some ⟨r, 0, none⟩)) false ty).run Go.Proofs.Tryz.prog w = .ok (.tuple #[.bool true, .int .i64 k, .agg #[.int .i64 l.1, .int .i64 l.2.1, .int .i64 l.2.2.1, .int .i64 l.2.2.2.1]]) w' ∧
      w'.ranges Go.Proofs.Tryz.prog 3 encR b r n (dm lnV E) (fun z => left z && !z.sameKey (.int .i64 k)) cnt' ∧ cnt' < cnt ∧ w.grownBy w' (some r) ∧ w'.heap.size = w.heap.size ∧
      (Instr.entry (.pointer (some ⟨r, 0, none⟩))).run Go.Proofs.Tryz.prog w' = .ok (.tuple #[.int .i64 k, .agg #[.int .i64 l.1, .int .i64 l.2.1, .int .i64 l.2.2.1, .int .i64 l.2.2.2.1]]) w' := by
  rcases h.next kI ty with h | ⟨key, v, kl, y, Wn, cnt', hkey, hlk, hv, hat, hrun, hrg', hlt, hgr, hsz', hen⟩
  · exact .inl h
  · obtain ⟨k, rfl, rfl, hkw⟩ := Maps.keyOf_int_inv kI_u hkey
    obtain ⟨l, hl, rfl, rfl⟩ := encR_inv hv
    have hkl : lookE E k = some l := by
      have := hat .nil
      rw [dm_at] at this
      cases hlk : lookE E k with
      | none => rw [hlk] at this; cases this
      | some m =>
        rw [hlk] at this
        have := lnV_inj (DataW.held.inj this)
        rw [this]
    exact .inr ⟨k, l, Wn, cnt', hkl, look_in hkl, (hok _ (look_in hkl)).1, hl, hrun, hrg', hlt, hgr, hsz', hen⟩
theorem ranges_kept {w w' : World} {b r n : Nat} {D : DataW Value} {left : Lit → Bool} {cnt : Nat} (h : w.ranges Go.Proofs.Tryz.prog 3 encR b r n D left cnt) (h1 : w'.heap[b]? = w.heap[b]?) (h2 : w'.heap[r]? = w.heap[r]?) : w'.ranges Go.Proofs.Tryz.prog 3 encR b r n D left cnt := by
  obtain ⟨es, cl, sn, se, c0, g1, F, hs, hD, g2, rest⟩ := h
  exact ⟨es, cl, sn, se, c0, h1.trans g1, F, hs, hD, h2.trans g2, rest⟩
theorem copy_call {w : World} {bd bs : Nat} {E F : List (Int × Lin)} (hE : ownsT w bd E) (hF : ownsT w bs F) (hne : bd ≠ bs) (hlE : E.length ≤ 1000) (hlF : F.length ≤ 1000) :
    Calls Go.Proofs.Tryz.prog 71 #[.map (some bd), .map (some bs)] w fun e w' => e = .returned (.tuple #[]) ∧ ownsT w' bd (mergeE E F) ∧ w.grownBy w' (some bd) := by
  have ld := hE.lt
  have ls := hF.lt
  have hres : ∀ (tm : Array Value) (W : World), (results Go.Proofs.Tryz.f71 tm).run Go.Proofs.Tryz.prog W = .ok (.tuple #[]) W := fun tm W => by simp [results, Go.Proofs.Tryz.results71, go_sem]
  obtain ⟨W2, hrun, hrg, hg, hsz⟩ := hF.own.range kI tT_u
  go_enter Go.Proofs.Tryz.func71, Go.Proofs.Tryz.ntmps71
  refine (wpIn_wide (n := 0)).1 ?_
  show Code.wpIn (Fw none) 0 _ _ _ _ _
  refine wpIn_seq (ql_region rfl ?_)
  simp [ql, go_sem, Exit.then, hrun]
  obtain ⟨A, hA⟩ : ∃ A : Nat → Act → World → Prop, A = fun cnt a W => ∃ (D : List (Int × Lin)) (left : Lit → Bool) (x1 x2 x3 x4 x5 x6 x8 x9 x10 x11 x12 x13 x14 x15 : Value), a = ⟨#[.map (some bd), x1, x2, x3, x4, x5, x6, .pointer (some ⟨w.heap.size, 0, none⟩), x8, x9, x10, x11, x12, x13, x14, x15], []⟩ ∧
    W.ranges Go.Proofs.Tryz.prog 3 encR bs w.heap.size F.length (dm lnV F) left cnt ∧ cnt ≤ F.length ∧ ownsT W bd D ∧ D.length ≤ E.length + (F.length - cnt) ∧ (∀ j : Int, lookE D j = match lookE F j with | some l => if left (.int .i64 j) = true then lookE E j else some l | none => lookE E j) ∧ w.grownBy W (some bd) := ⟨_, rfl⟩
  have hinit : A F.length ⟨#[.map (some bd), .map (some bs), undef, undef, undef, undef, .map (some bs), .pointer (some ⟨w.heap.size, 0, none⟩), undef, undef, undef, undef, undef, undef, undef, undef], []⟩ W2 := by
    rw [hA]
    rw [dm_size] at hrg
    refine ⟨E, _, _, _, _, _, _, _, _, _, _, _, _, _, _, _, rfl, hrg, Nat.le_refl _, hE.kept (hg.block _ ld (by simp)), by omega, fun j => ?_, hg.but _⟩
    rw [dm_has]
    cases lookE F j <;> simp
  refine wpIn_block (wp_loopAt (loop_downX A ?_ _ _ _ hinit))
  clear hinit
  intro cnt a Wc hh
  rw [hA] at hh
  obtain ⟨D, left, x1, x2, x3, x4, x5, x6, x8, x9, x10, x11, x12, x13, x14, x15, rfl, hrg, hcl, hD, hDl, hinv, hgw⟩ := hh
  rcases next_ent hF.ok hrg 0 with ⟨hc0, hl0, hrun⟩ | ⟨k, l, Wn, cnt', hkl, hkin, hk, hl, hrun, hrg', hlt, hgr, hsz', hen⟩
  · refine wpIn_seq (ql_region rfl ?_)
    simp [ql, go_sem, Exit.then, hrun]
    refine wpIn_seq (wpIn_cond_false (by simp [Act.eval]) (wpIn_exit ?_))
    simp only [Exit.then, Exit.inBlock, if_true]
    have hDE : D = mergeE E F := by
      refine asc_ext hD.asc (merge_asc hE.asc) fun j => ?_
      rw [hinv j, look_merge hE.asc hF.asc]
      cases lookE F j <;> simp [hl0]
    rw [hDE] at hD
    exact ⟨rfl, _, hres _ _, rfl, hD, hgw⟩
  · have hrlt := hrg.lt
    have hrne := hrg.ne
    have hkeep : ∀ b, b < Wn.heap.size → (Wn.alloc (.cells #[.int .i64 l.1, .int .i64 l.2.1, .int .i64 l.2.2.1, .int .i64 l.2.2.2.1] 32)).heap[b]? = Wn.heap[b]? := fun b hb => Below.heap_alloc _ _ b hb
    have hDlt := hD.lt
    have hDn := (hD.kept (hgr.block bd hDlt (fun e => by have := Option.some.inj e; omega))).kept (hkeep bd (by omega))
    obtain ⟨W3, hup, hD3, hg3⟩ := hDn.put (by omega) hk hl
    simp only [lnV] at hup
    refine wpIn_seq (ql_region rfl ?_)
    simp [ql, go_sem, Exit.then, hrun]
    refine wpIn_seq (wpIn_cond_true (by simp [Act.eval]) (wpIn_skip ?_))
    simp only [Exit.then]
    refine wpIn_block (wpIn_seq (ql_region rfl ?_))
    simp [ql, go_sem, Exit.then, hen]
    refine ql_region rfl ?_
    simp [ql, go_sem, Exit.then, Exit.inBlock, hup]
    refine ⟨cnt', hlt, ?_⟩
    rw [hA]
    have hbs : bs < Wc.heap.size := by
      obtain ⟨es, cl, sn, se, c0, g1, _⟩ := hrg
      exact (Array.getElem?_eq_some_iff.1 g1).1
    have hpl := putE_len k l D
    refine ⟨putE D k l, _, _, _, _, _, _, _, _, _, _, _, _, _, _, _, rfl, ranges_kept hrg' ((hg3.block bs (by simp; omega) (fun e => hne (Option.some.inj e).symm)).trans (hkeep bs (by omega))) ((hg3.block _ (by simp; omega) (fun e => by have := Option.some.inj e; omega)).trans (hkeep _ (by omega))), by omega, hD3, by omega, fun j => ?_, ?_⟩
    · rw [look_put hD.asc, same_int]
      by_cases e : k = j
      · subst e
        rw [if_pos rfl, hkl]
        simp
      · rw [if_neg e, hinv j]
        cases lookE F j <;> simp [Ne.symm e, show ¬ j = k from fun h => e h.symm]
    · exact ⟨hg3.os.trans (hgr.os.trans hgw.os), hg3.tape.trans (hgr.tape.trans hgw.tape), hg3.output.trans (hgr.output.trans hgw.output), by have h1 := hg3.size; have h2 := hgw.size; simp at h1; omega, fun i hi hni => by
        have h2 := hgw.size
        have := hg3.block i (by simp; omega) hni
        rw [this, hkeep i (by omega), hgr.block i (by omega) (fun e => by have := Option.some.inj e; omega), hgw.block i hi hni]⟩
end Go.Tk
/- The keys of a table, sorted. -/
set_option linter.unusedSimpArgs false
set_option linter.unusedVariables false
set_option linter.unnecessarySimpa false
namespace Go.Proofs
open Go.RowKit Go.Maps Go.Sort Go.Shelf
shelf_lay_g SlLaysM.n5 Slgm 5 at Tryz 142 as Tryz.sortI
shelf_lay_g SlLaysZI.n7 Ggz 7 at Tryz 130 as Tryz.keysA
shelf_lay_g SlLaysZI.n6 Ggz 6 at Tryz 129 as Tryz.sortedA
theorem Tryz.sortsA (m : Nat) : AnyZI.SortsIn Tryz.prog Tryz.sortedA_ren Fence.wide m :=
  ⟨fun blk off cap ss W hH hblk hsz => callsIn_wide.2 (AnyM.slices_Sort_int Tryz.sortI blk off cap ss W hH hblk hsz),
   fun p cap W => callsIn_wide.2 (AnyM.slices_Sort_int_none Tryz.sortI p cap W)⟩
end Go.Proofs
namespace Go.Tk
open Go Go.RowKit Go.Maps Go.Sort
theorem ints_rep {P : Program} {w : World} {S : Nat → Prop} : ∀ {xs : List Int}, (∀ x ∈ xs, inI x) → repL ((reps P .int).c w S) xs (xs.map (Value.int .i64))
  | [], _ => rfl
  | x :: xs, h => ⟨[.int .i64 x], xs.map (Value.int .i64), rfl, ⟨rfl, h x (by simp)⟩, ints_rep fun y hy => h y (by simp [hy])⟩
theorem sort_keys {E : List (Int × Lin)} (ha : Asc E) {ss : List Int} (h : ss.Perm (E.map (·.1))) : ss.mergeSort (fun x y => decide (x ≤ y)) = E.map (·.1) := by
  have h1 : (ss.mergeSort fun x y => decide (x ≤ y)).Pairwise fun x y => decide (x ≤ y) = true := List.pairwise_mergeSort (fun a b c h1 h2 => by simp at *; omega) (fun a b => by simp; omega) _
  have h2 : (E.map (·.1)).Pairwise fun x y => decide (x ≤ y) = true := List.Pairwise.map _ (fun a b (h : a.1 < b.1) => by simp; omega) ha
  refine List.Perm.eq_of_pairwise (fun a b _ _ p q => ?_) h1 h2 ((List.mergeSort_perm ..).trans h)
  simp at p q; omega
theorem keys_call {w : World} {b : Nat} : Calls Go.Proofs.Tryz.prog 130 #[.map (some b)] w fun e w' => e = .returned (.func (.func 143) #[] #[.pointer (some ⟨w.heap.size, 0, none⟩)]) ∧ w' = w.alloc (.cells #[.map (some b)] 76) :=
  callsIn_wide.1 (Go.Proofs.AnyZI.keys_in Go.Proofs.Tryz.keysA Fence.wide 5 trivial rfl (some b) w)
theorem sorted_call {w : World} {b : Nat} {E : List (Int × Lin)} (h : ownsT w b E) (hl : E.length ≤ 1000) : Calls Go.Proofs.Tryz.prog 129 #[.func (.func 143) #[] #[.pointer (some ⟨w.heap.size, 0, none⟩)]] (w.alloc (.cells #[.map (some b)] 76)) fun e w' =>
    ∃ v, e = .returned v ∧ (reps Go.Proofs.Tryz.prog (.sl .int)).c w' (fun k => w.heap.size ≤ k) (E.map (·.1)) [v] ∧ Below w.heap.size w w' := by
  have hbl := h.lt
  have hseq : SeqGives Fence.wide 2 Go.Proofs.Tryz.prog 143 #[.pointer (some ⟨w.heap.size, 0, none⟩)] encZ (fun ss => ss.Perm (intKeys (dm lnV E))) (Maps.size (dm lnV E)) (w.alloc (.cells #[.map (some b)] 76)) :=
    Go.Proofs.AnyZI.keys_gives (ρ := Go.Proofs.Tryz.keysA_ren) { Go.Proofs.Tryz.keysA with } Fence.wide _ trivial rfl (by omega) w.heap.size b _ _ _ (by simp) (by simp) (h.kept (Below.heap_alloc _ _ b hbl)).own
  have cS := Go.Proofs.AnyZI.sorted_in Go.Proofs.Tryz.sortedA Fence.wide 5 trivial trivial trivial trivial rfl (by omega) (Go.Proofs.Tryz.sortsA _) (Go.Proofs.enters_of Go.Proofs.Tryz.func142 (by kernel_rfl) rfl) 143 #[.pointer (some ⟨w.heap.size, 0, none⟩)] trivial (Go.Proofs.enters_of Go.Proofs.Tryz.func143 (by kernel_rfl) rfl) _ _ (by rw [dm_size]; unfold maxLen; omega) (by rw [dm_size]; omega) _ hseq
  refine (callsIn_wide.1 cS).mono ?_
  rintro e w' ⟨v, ss, rfl, hS, hrow, hnil, hb⟩
  rw [dm_keys] at hS
  rw [sort_keys h.asc hS] at hrow
  have hlen := hS.length_eq
  have hsz : (w.alloc (.cells #[.map (some b)] 76)).heap.size = w.heap.size + 1 := by simp
  rw [hsz] at hrow hb
  refine ⟨v, rfl, ⟨v, rfl, ?_⟩, ((Below.refl _ w).alloc (Nat.le_refl _) _).trans (hb.mono (by omega))⟩
  have hin : ∀ x ∈ E.map (·.1), inI x := fun x hx => by
    obtain ⟨p, hp, rfl⟩ := List.mem_map.1 hx
    exact (h.ok p hp).1
  have hEl : (E.map (·.1)).length = E.length := List.length_map ..
  obtain ⟨_, ⟨rfl, h0⟩ | ⟨g, cap, cur, rfl, g1, g2, g3, g4, g5, g6⟩⟩ := hrow
  · have : E.map (·.1) = [] := List.length_eq_zero_iff.1 (by omega)
    rw [this]
    exact ⟨none, 0, rfl, Nat.le_refl _, by simp, .inl rfl⟩
  · refine ⟨some ⟨g, 0, none⟩, cap, by rw [hEl, hlen, hEl], by omega, by omega, .inr ⟨g, 0, (E.map (·.1)).map (Value.int .i64), rfl, show w.heap.size ≤ g by omega, (Array.getElem?_eq_some_iff.1 g2).1, ?_, ints_rep hin⟩⟩
    intro j u hj
    have hj2 : (cur.toList.take (ss.length * 1))[j]? = some u := by rw [g6]; exact hj
    rw [List.getElem?_take] at hj2
    split at hj2
    · simp only [World.cell?, g2, Nat.zero_add]
      simpa using hj2
    · cases hj2
end Go.Tk
/- patch.do. -/
set_option linter.unusedSimpArgs false
set_option linter.unusedVariables false
set_option linter.unnecessarySimpa false
set_option maxRecDepth 10000
set_option maxHeartbeats 400000
namespace Go.Tk
open Go Go.RowKit
theorem arr27 (x : Array Value) (h : x.size = 27) : ∃ x0 x1 x2 x3 x4 x5 x6 x7 x8 x9 x10 x11 x12 x13 x14 x15 x16 x17 x18 x19 x20 x21 x22 x23 x24 x25 x26 : Value, x = #[x0, x1, x2, x3, x4, x5, x6, x7, x8, x9, x10, x11, x12, x13, x14, x15, x16, x17, x18, x19, x20, x21, x22, x23, x24, x25, x26] := by
  obtain ⟨l⟩ := x
  match l, h with
  | [x0, x1, x2, x3, x4, x5, x6, x7, x8, x9, x10, x11, x12, x13, x14, x15, x16, x17, x18, x19, x20, x21, x22, x23, x24, x25, x26], _ => exact ⟨_, _, _, _, _, _, _, _, _, _, _, _, _, _, _, _, _, _, _, _, _, _, _, _, _, _, _, rfl⟩
abbrev tP : T := .sl tL
theorem lk_key {α : Type _} : ∀ {E : List (Nat × α)} {t : Nat} {U : α}, lk E t = some U → t ∈ E.map (·.1)
  | [], _, _, h => by cases h
  | (k, v) :: E, t, U, h => by
    simp only [lk] at h
    split at h
    · rename_i e
      have : k = t := Nat.eq_of_beq_eq_true e
      simp [this]
    · simp [lk_key h]
theorem noIt1 {E : List (Nat × V)} {k0 : Nat} {f : Bool} {t : T} {xs : List t.den} : ∀ k g l, (mkSt (E, [(k0, .sl f t xs)])).loc k = some (g, l) → l.isIt = false := by
  intro k g l h
  have h := (mkLoc_some h).2
  simp only [lk] at h
  split at h
  · cases h; rfl
  · cases h
def kv16 (r : Nat) : Nat → Option Value := fun t => if t = 16 then some (.pointer (some ⟨r, 0, none⟩)) else none
theorem kv16_at {r t : Nat} {v : Value} (h : kv16 r t = some v) : t = 16 ∧ v = .pointer (some ⟨r, 0, none⟩) := by
  unfold kv16 at h
  split at h
  · rename_i e; cases h; exact ⟨e, rfl⟩
  · cases h
theorem kv16_no {r t : Nat} (h : t ≠ 16) : kv16 r t = none := by unfold kv16; rw [if_neg h]
abbrev cDo : Con := { A := (.cons (.sl tL) (.cons (.sl tEd) .nil)), R := (.cons (.osl tL) .nil), pre := fun x => x.1.length ≤ 1000 ∧ x.2.1.length ≤ 1000 ∧ Asc (readE x.2.1) ∧ inX x.1.length x.2.1, F := fun x => (playX x.1 x.2.1, ()) }
theorem cDo_ok : ConOK Go.Proofs.Tryz.prog 58 cDo := by
  refine ConOK.f ?_ rfl
  rintro w S ⟨p, x, ⟨⟩⟩ vs hv ⟨hp1, hx1, hasc, hin⟩
  change List Lin at p
  change List Edt at x
  have hp1 : p.length ≤ 1000 := hp1
  have hx1 : x.length ≤ 1000 := hx1
  have hasc : Asc (readE x) := hasc
  have hin : inX p.length x := hin
  have hv0 := hv
  obtain ⟨pv, vs1, b1, b2, rfl, e2, h1, h2⟩ := hv
  obtain ⟨xv, vs2, b3, b4, rfl, e3, h3, h4⟩ := h2
  obtain ⟨rfl, _⟩ : vs2 = [] ∧ _ := h4
  show Calls _ _ #[pv, xv] w _
  have hk : Cok Go.Proofs.Tryz.prog ⟨[], Th, 27, noX⟩ := cok_of trivial (by kernel_rfl) th_ok
  have hR := rel_start (n := 27) (A := .cons tP (.cons tX .nil)) (x := (p, x, ())) rfl hv0
  refine calls_of_wp Go.Proofs.Tryz.func58 rfl ?_
  rw [Go.Proofs.Tryz.ntmps58]
  refine (wpIn_wide (n := 0)).1 ?_
  show Code.wpIn (Fw none) 0 _ _ _ _ _
  refine eng_to hk mix_ok rfl rfl (ly := [([1, 1, 2], ⟨[(0, false), (1, false), (5, true)], [(10, true)]⟩)]) hR (by kernel_rfl) (fun _ _ => rfl) (fun Λ hΛ => ?_)
  have h0 : mkLen (p.length : Int) (p.length : Int) ∧ Λ [1, 1, 2] ([(0, .d false tP p), (1, .d false tX x), (5, .own 10 0)], [(10, .sl true tL (List.append (List.take (List.length (List.replicate (Int.toNat (List.length p : Int)) tL.dflt)) p) (List.drop (List.length p) (List.replicate (Int.toNat (List.length p : Int)) tL.dflt))))]) := by
    refine ⟨by unfold mkLen; omega, ?_⟩
    have e1 : (List.append (List.take (List.length (List.replicate (Int.toNat (List.length p : Int)) tL.dflt)) p) (List.drop (List.length p) (List.replicate (Int.toNat (List.length p : Int)) tL.dflt)) : List Lin) = p := by
      simp
    rw [e1]
    subst hΛ
    intro a W hR
    have hbW : Below w.heap.size w W := hR.low
    obtain ⟨tm, df⟩ := a
    obtain rfl : df = [] := hR.nd.2 rfl
    obtain ⟨x0, x1, x2, x3, x4, x5, x6, x7, x8, x9, x10, x11, x12, x13, x14, x15, x16, x17, x18, x19, x20, x21, x22, x23, x24, x25, x26, rfl⟩ := arr27 tm hR.sz
    obtain ⟨G, hm, he⟩ := hR.ex
    obtain ⟨xcs, ex1, hxr⟩ : ∃ cs, x1 = mkV tX cs ∧ (reps Go.Proofs.Tryz.prog tX).c W (dS (hB w.heap.size S (fun _ => none) (fun _ => False) fun b => w.heap[b]?) G (mkLoc [(10, .sl true tL p)]) false) x cs := he 1
    obtain ⟨xv', exc, hxs⟩ := hxr
    subst exc
    have hxr : (reps Go.Proofs.Tryz.prog tX).c W (dS (hB w.heap.size S (fun _ => none) (fun _ => False) fun b => w.heap[b]?) G (mkLoc [(10, .sl true tL p)]) false) x [xv'] := ⟨xv', rfl, hxs⟩
    have ex1 : x1 = xv' := ex1
    subst ex1
    clear hm he
    show Code.wpIn (Fw none) 0 _ _ _ _ _
    refine wpIn_seq (wpIn_seq (ql_region rfl ?_))
    simp [ql, go_sem, Exit.then]
    refine (read_call hxr hx1 hasc).mono ?_
    rintro e W1 ⟨rfl, hT, hb1⟩
    obtain ⟨W2, hrun, hrg, hg, hsz⟩ := hT.own.range kI tT_u
    simp [ql, go_sem, Exit.then, hrun]
    have lb1 := hb1.size
    have lb2 := hg.size
    have hlt2 := hT.lt
    obtain ⟨kb, hkb⟩ : ∃ kb : Nat → Prop, kb = fun b => b = W.heap.size ∨ b = W1.heap.size := ⟨_, rfl⟩
    have hR2 := hR.re (w' := W2) (kv' := fun _ => none) (kb' := kb) noIt1 (hg.os.trans hb1.os) (hg.tape.trans hb1.tape) (hg.output.trans hb1.output) (by omega) (fun b hb => (hg.block b (by have := hb.lt; omega) (by simp)).trans (hb1.block b hb.lt)) (fun b hb => (hg.block b (by have := hbW.size; omega) (by simp)).trans (hb1.block b (by have := hbW.size; omega))) (fun b hb => by rw [hkb] at hb; omega) (fun b hb hlt => by rw [hkb] at hb; omega) (fun _ _ h => by cases h)
    have hR3 := rel_env (kv' := kv16 W1.heap.size) (E' := [(0, .d false tP p), (1, .d false tX x), (5, .own 10 0)]) (a' := ⟨#[x0, x1, x2, x3, x4, x5, x6, x7, x8, x9, x10, x11, x12, x13, x1, .map (some W.heap.size), .pointer (some ⟨W1.heap.size, 0, none⟩), x17, x18, x19, x20, x21, x22, x23, x24, x25, x26], []⟩) hR2 rfl rfl (fun t v h => by obtain ⟨rfl, rfl⟩ := kv16_at h; rfl) (fun t U hU => .inl ⟨hU, by
      have := lk_key hU
      simp at this
      rcases this with rfl | rfl | rfl <;> rfl⟩)
    clear hR hR2
    obtain ⟨A, hA⟩ : ∃ A : Nat → Act → World → Prop, A = fun cnt a Wc => ∃ (out : List Lin) (left : Lit → Bool), Rel Go.Proofs.Tryz.prog (hB w.heap.size S (kv16 W1.heap.size) kb fun b => Wc.heap[b]?) w 27 (mkSt ([(0, .d false tP p), (1, .d false tX x), (5, .own 10 0)], [(10, .sl true tL out)])) a Wc ∧
      Wc.ranges Go.Proofs.Tryz.prog 3 encR W.heap.size W1.heap.size (readE x).length (dm lnV (readE x)) left cnt ∧ out.length = p.length ∧ ∀ i, i < p.length → out.getD i zL = match lookE (readE x) (i : Int) with
        | some l => if left (.int .i64 (i : Int)) = true then p.getD i zL else l
        | none => p.getD i zL := ⟨_, rfl⟩
    have hinit : A (Maps.size (dm lnV (readE x))) ⟨#[x0, x1, x2, x3, x4, x5, x6, x7, x8, x9, x10, x11, x12, x13, x1, .map (some W.heap.size), .pointer (some ⟨W1.heap.size, 0, none⟩), x17, x18, x19, x20, x21, x22, x23, x24, x25, x26], []⟩ W2 := by
      rw [hA]
      refine ⟨p, _, hR3, hrg, rfl, fun i hi => ?_⟩
      rw [dm_has]
      cases hlk : lookE (readE x) (i : Int) <;> simp
    refine wpIn_block (wp_loopAt (loop_downX A ?_ _ _ _ hinit))
    clear hR3 hrg hrun
    intro cnt a Wc hh
    rw [hA] at hh
    obtain ⟨out, left, hR, hrg, hol, hinv⟩ := hh
    obtain ⟨tm, df⟩ := a
    obtain rfl : df = [] := hR.nd.2 rfl
    obtain ⟨y0, y1, y2, y3, y4, y5, y6, y7, y8, y9, y10, y11, y12, y13, y14, y15, y16, y17, y18, y19, y20, y21, y22, y23, y24, y25, y26, rfl⟩ := arr27 tm hR.sz
    obtain rfl : y16 = .pointer (some ⟨W1.heap.size, 0, none⟩) := hR.kp 16 _ rfl
    rcases hrg.next kI 0 with ⟨hc0, hl0, hrun⟩ | ⟨key, v, kl, y, Wn, cnt', hkey, hlk, hv, hat, hrun, hrg', hlt, hgr, hsz', hen⟩
    · refine wpIn_seq (ql_region rfl ?_)
      simp [ql, go_sem, Exit.then, hrun]
      refine wpIn_seq (wpIn_cond_false (by simp [Act.eval]) (wpIn_exit ?_))
      simp only [Exit.then, Exit.inBlock, if_true]
      refine wpIn_seq (ql_region rfl ?_)
      simp [ql, go_sem, Exit.then]
      refine wpIn_ret ?_
      have hout : out = playX p x := by
        apply List.ext_getElem?
        intro i
        by_cases hi : i < p.length
        · have h1 := hinv i hi
          have h2 := play_look x p i zL hasc hin hi
          have h3 : out.getD i zL = (playX p x).getD i zL := by
            rw [h1, h2]
            cases lookE (readE x) (i : Int) <;> simp [hl0]
          rw [List.getD_eq_getElem?_getD, List.getD_eq_getElem?_getD, List.getElem?_eq_getElem (by omega), List.getElem?_eq_getElem (by rw [playX_len]; exact hi)] at h3
          rw [List.getElem?_eq_getElem (by omega), List.getElem?_eq_getElem (by rw [playX_len]; exact hi)]
          exact congrArg some h3
        · rw [List.getElem?_eq_none (by omega), List.getElem?_eq_none (by rw [playX_len]; omega)]
      rw [hout] at hR
      obtain ⟨ob, hown, hob⟩ := rel_own hR (d := 5) (k := 10) rfl rfl
      refine ⟨rfl, _, results_tmp rfl _ _ _, [y5], rfl, (ob.map (·.1)).toList, ⟨y5, [], (ob.map (·.1)).toList, [], rfl, (List.append_nil _).symm, ⟨ob, hown, rfl⟩, rfl, rfl⟩, by cases ob <;> simp, hob, hR.low⟩
    · obtain ⟨k, rfl, rfl, hkw⟩ := Maps.keyOf_int_inv kI_u hkey
      obtain ⟨l, hl, rfl, rfl⟩ := encR_inv hv
      have hkl : lookE (readE x) k = some l := by
        have := hat .nil
        rw [dm_at] at this
        cases hlk : lookE (readE x) k with
        | none => rw [hlk] at this; cases this
        | some m =>
          rw [hlk] at this
          have := lnV_inj (DataW.held.inj this)
          rw [this]
      have hkin := look_in hkl
      obtain ⟨e0, he0, ee0⟩ := List.mem_map.1 hkin
      have hk0 := hin e0 he0
      have hke : e0.1 = k := by cases ee0; rfl
      rw [hke] at hk0
      simp only [lnV] at hrun hen
      refine wpIn_seq (ql_region rfl ?_)
      simp [ql, go_sem, Exit.then, hrun]
      refine wpIn_seq (wpIn_cond_true (by simp [Act.eval]) (wpIn_skip ?_))
      simp only [Exit.then]
      refine wpIn_block (wpIn_seq (ql_region rfl ?_))
      simp [ql, go_sem, Exit.then, hen]
      have hrg0 := hrg'
      obtain ⟨es0, cl0, sn0, se0, c00, _, _, _, _, hri, _⟩ := hrg
      have hlow := hR.low
      have hlo2 := hlow.size
      have hbw := hbW.size
      have hrlt : W1.heap.size < Wc.heap.size := (Array.getElem?_eq_some_iff.1 hri).1
      have hner : ∀ b, isC Wc b → b ≠ W1.heap.size := by
        rintro b ⟨c, e, q, hb⟩ rfl
        rw [hri] at hb; cases hb
      have hRn := hR.re (w' := Wn) (kv' := kv16 W1.heap.size) (kb' := kb) noIt1 hgr.os hgr.tape hgr.output hgr.size (fun b hb => hgr.block b hb.lt fun e => hner b hb (Option.some.inj e)) (fun b hb => hgr.block b (by omega) fun e => by have := Option.some.inj e; omega) (fun b hb => by rw [hkb] at hb; omega) (fun b hb _ => .inl hb) (fun t v h => hR.kp t v h)
      have hcs : ∀ (W' : World) (S' : Nat → Prop), (reps Go.Proofs.Tryz.prog tL).c W' S' l [.int .i64 l.1, .int .i64 l.2.1, .int .i64 l.2.2.1, .int .i64 l.2.2.2.1] := fun W' S' =>
        ⟨[_], [_, _, _], rfl, ⟨rfl, hl.1⟩, [_], [_, _], rfl, ⟨rfl, hl.2.1⟩, [_], [_], rfl, ⟨rfl, hl.2.2.1⟩, [_], [], rfl, ⟨rfl, hl.2.2.2⟩, rfl⟩
      have hRb := rel_box (a' := ⟨#[y0, y1, y2, y3, y4, y5, .int .i64 k, .pointer (some ⟨Wn.heap.size, 0, none⟩), y8, y9, y10, y11, y12, y13, y14, y15, .pointer (some ⟨W1.heap.size, 0, none⟩), .tuple #[.bool true, .int .i64 k, .agg #[.int .i64 l.1, .int .i64 l.2.1, .int .i64 l.2.2.1, .int .i64 l.2.2.2.1]], .bool true, .tuple #[.int .i64 k, .agg #[.int .i64 l.1, .int .i64 l.2.1, .int .i64 l.2.2.1, .int .i64 l.2.2.2.1]], .int .i64 k, .agg #[.int .i64 l.1, .int .i64 l.2.1, .int .i64 l.2.2.1, .int .i64 l.2.2.2.1], y22, y23, y24, y25, y26], []⟩)
        (E' := [(0, .d false tP p), (1, .d false tX x), (5, .own 10 0), (6, .d true .int k), (7, .ept true tL l)]) (d := 7) (t := tL) (x := l) (ty := 32) hRn noIt1 hcs rfl rfl (fun t v h => by obtain ⟨rfl, rfl⟩ := kv16_at h; rfl) rfl (fun t U hU => by
          have hk7 := lk_key hU
          simp at hk7
          rcases hk7 with rfl | rfl | rfl | rfl | rfl
          · exact .inl ⟨hU, rfl⟩
          · exact .inl ⟨hU, rfl⟩
          · exact .inl ⟨hU, rfl⟩
          · refine .inr (.inr fun B G m w => ?_)
            cases hU
            exact ⟨[.int .i64 k], rfl, rfl, by unfold inI; omega⟩
          · cases hU
            exact .inr (.inl ⟨rfl, rfl⟩))
      refine eng_thru hk mix_ok rfl rfl (ly := ⟨[(0, false), (1, false), (5, true)], [(10, true)]⟩) (x := ([(0, .d false tP p), (1, .d false tX x), (5, .own 10 0)], [(10, .sl true tL (out.set k.toNat l))])) hRb (by kernel_rfl) (fun t ht => kv16_no fun e => ?_) ?_ ?_
      · rw [e] at ht
        revert ht
        decide
      · have h0 : idx k (out.length : Int) ∧ (([(0, V.d false tP p), (1, .d false tX x), (5, .own 10 0)], [(10, L.sl true tL (out.set k.toNat l))]) : Lst) = ([(0, .d false tP p), (1, .d false tX x), (5, .own 10 0)], [(10, .sl true tL (out.set k.toNat l))]) := ⟨by unfold idx; omega, rfl⟩
        exact Eq.mpr (by kernel_rfl) h0
      · intro a3 W3 hR3
        simp only [Exit.inBlock, Exit.then]
        refine ⟨cnt', hlt, ?_⟩
        rw [hA]
        refine ⟨out.set k.toNat l, fun z => left z && !z.sameKey (.int .i64 k), hR3.now noIt1, ?_, by rw [List.length_set]; exact hol, fun i hi => ?_⟩
        · obtain ⟨es, cl, sn, se, c0, g1, F, hs, hD, g2, rest⟩ := hrg0
          have hWn : ∀ b, b < Wn.heap.size → (Wn.alloc (.cells #[.int .i64 l.1, .int .i64 l.2.1, .int .i64 l.2.2.1, .int .i64 l.2.2.2.1] 32)).heap[b]? = Wn.heap[b]? := fun b hb => Below.heap_alloc _ _ b hb
          have hkp3 : ∀ b, kb b → W3.heap[b]? = (Wn.alloc (.cells #[.int .i64 l.1, .int .i64 l.2.1, .int .i64 l.2.2.1, .int .i64 l.2.2.2.1] 32)).heap[b]? := fun b hb => hR3.kept hb
          exact ⟨es, cl, sn, se, c0, ((hkp3 _ (by rw [hkb]; exact .inl rfl)).trans (hWn _ (by omega))).trans g1, F, hs, hD, ((hkp3 _ (by rw [hkb]; exact .inr rfl)).trans (hWn _ (by omega))).trans g2, rest⟩
        · by_cases e : (i : Int) = k
          · have e2 : k.toNat = i := by omega
            rw [e2, e, hkl, List.getD_eq_getElem?_getD, List.getElem?_set_self (by omega)]
            simp [same_int]
          · have h5 := hinv i hi
            rw [List.getD_eq_getElem?_getD, List.getElem?_set_ne (by omega), ← List.getD_eq_getElem?_getD, h5]
            simp only [same_int, e, decide_false, Bool.not_false, Bool.and_true]
  exact Eq.mpr (by kernel_rfl) h0
end Go.Tk
/- Plain facts of layer 4: valid patches ascend. No program in sight. -/
set_option linter.unusedSimpArgs false
set_option linter.unusedVariables false
set_option linter.unnecessarySimpa false
namespace Go.Tk
open Go Go.RowKit
theorem adj_pair : ∀ (l : List Int), (∀ i, i + 1 < l.length → l.getD i 0 < l.getD (i + 1) 0) → l.Pairwise (· < ·)
  | [], _ => .nil
  | [a], _ => by simp
  | a :: b :: l, h => by
    have ih := adj_pair (b :: l) fun i hi => by
      have := h (i + 1) (by simp at hi ⊢; omega)
      simpa using this
    have hab : a < b := by have := h 0 (by simp); simpa using this
    refine List.pairwise_cons.2 ⟨fun c hc => ?_, ih⟩
    rcases List.mem_cons.1 hc with rfl | hc
    · exact hab
    · have := (List.pairwise_cons.1 ih).1 c hc
      omega
theorem validX_asc {x : List Edt} (h : validX x = 0) : Asc (readE x) := by
  unfold validX at h
  split at h
  · omega
  · have ha := okTo_at _ (argErr_zero.1 h)
    have key : (x.map (·.1)).Pairwise (· < ·) := by
      refine adj_pair _ fun i hi => ?_
      rw [List.length_map] at hi
      have g := ha (i + 1) hi
      unfold edOK at g
      simp only [Nat.add_sub_cancel, Bool.not_eq_true', Bool.or_eq_false_iff, Bool.and_eq_false_iff, decide_eq_false_iff_not, Int.not_le] at g
      have e1 : (x.map (·.1)).getD i 0 = (x.getD i tEd.dflt).1 := by
        simp [List.getD_eq_getElem?_getD, show i < x.length by omega]
      have e2 : (x.map (·.1)).getD (i + 1) 0 = (x.getD (i + 1) tEd.dflt).1 := by
        simp [List.getD_eq_getElem?_getD, hi]
      rw [e1, e2]
      have := g.1.2
      simp at this
      omega
    unfold Asc readE
    rw [List.pairwise_map] at key ⊢
    exact key
def bothX (x y : List Edt) : Int := if validX x = 0 then validX y else validX x
theorem bothX_ok {x y : List Edt} (h : bothX x y = 0) : validX x = 0 ∧ validX y = 0 := by
  unfold bothX at h
  split at h
  · exact ⟨by assumption, h⟩
  · exact absurd h (by assumption)
def editE (E : List (Int × Lin)) : List Edt := E.map fun p => (p.1, p.2, ())
def limE (E : List (Int × Lin)) : List Edt := if E.length > 4 then [] else editE E
def limN (E : List (Int × Lin)) : Int := if E.length > 4 then 3 else 0
end Go.Tk
/- The edits of a table. -/
set_option linter.unusedSimpArgs false
set_option linter.unusedVariables false
set_option linter.unnecessarySimpa false
set_option maxRecDepth 10000
set_option maxHeartbeats 400000
namespace Go.Tk
open Go Go.RowKit
theorem arr24 (x : Array Value) (h : x.size = 24) : ∃ x0 x1 x2 x3 x4 x5 x6 x7 x8 x9 x10 x11 x12 x13 x14 x15 x16 x17 x18 x19 x20 x21 x22 x23 : Value, x = #[x0, x1, x2, x3, x4, x5, x6, x7, x8, x9, x10, x11, x12, x13, x14, x15, x16, x17, x18, x19, x20, x21, x22, x23] := by
  obtain ⟨l⟩ := x
  match l, h with
  | [x0, x1, x2, x3, x4, x5, x6, x7, x8, x9, x10, x11, x12, x13, x14, x15, x16, x17, x18, x19, x20, x21, x22, x23], _ => exact ⟨_, _, _, _, _, _, _, _, _, _, _, _, _, _, _, _, _, _, _, _, _, _, _, _, rfl⟩
def kvA (d : Nat) (v : Value) : Nat → Option Value := fun t => if t = d then some v else none
theorem kvA_at {d t : Nat} {v u : Value} (h : kvA d v t = some u) : t = d ∧ u = v := by
  unfold kvA at h
  split at h
  · rename_i e; cases h; exact ⟨e, rfl⟩
  · cases h
theorem kvA_no {d t : Nat} {v : Value} (h : t ≠ d) : kvA d v t = none := by unfold kvA; rw [if_neg h]
abbrev tInts : T := .sl .int
theorem ln_rep {W : World} {S : Nat → Prop} {l : Lin} (hl : inL l) : (reps Go.Proofs.Tryz.prog tL).c W S l [.int .i64 l.1, .int .i64 l.2.1, .int .i64 l.2.2.1, .int .i64 l.2.2.2.1] :=
  ⟨[_], [_, _, _], rfl, ⟨rfl, hl.1⟩, [_], [_, _], rfl, ⟨rfl, hl.2.1⟩, [_], [_], rfl, ⟨rfl, hl.2.2.1⟩, [_], [], rfl, ⟨rfl, hl.2.2.2⟩, rfl⟩
/-- What a function that hands back an own slice leaves. -/
def ownRes (w : World) (xs : List Edt) (v : Value) (W : World) : Prop := ∃ ob : Option (Nat × Nat), repOwn ((reps Go.Proofs.Tryz.prog tEd).c W fun b => w.heap.size ≤ b ∧ ¬ b ∈ (ob.map (·.1)).toList) 5 W (fun _ => True) xs v ob ∧ ∀ b ∈ (ob.map (·.1)).toList, w.heap.size ≤ b
theorem patch_call {w : World} {b : Nat} {E : List (Int × Lin)} (hT : ownsT w b E) (hl : E.length ≤ 1000) : Calls Go.Proofs.Tryz.prog 111 #[.map (some b)] w fun e w' => ∃ v, e = .returned v ∧ ownRes w (editE E) v w' ∧ Below w.heap.size w w' := by
  have hbl := hT.lt
  have hk : Cok Go.Proofs.Tryz.prog ⟨[], Th, 24, noX⟩ := cok_of trivial (by kernel_rfl) th_ok
  obtain ⟨kb, hkb⟩ : ∃ kb : Nat → Prop, kb = fun k => k = b := ⟨_, rfl⟩
  refine calls_of_wp Go.Proofs.Tryz.func111 rfl ?_
  rw [Go.Proofs.Tryz.ntmps111]
  refine (wpIn_wide (n := 0)).1 ?_
  show Code.wpIn (Fw none) 0 _ _ _ _ _
  have hR := rel_zero (P := Go.Proofs.Tryz.prog) (w := w) (n := 24) (S := fun _ => True) (kv := kvA 0 (.map (some b))) (kb := kb) (a := ⟨#[.map (some b)] ++ Array.replicate (24 - #[Value.map (some b)].size) undef, []⟩) (by simp) rfl (fun t v h => by obtain ⟨rfl, rfl⟩ := kvA_at h; simp) (fun k hk => by rw [hkb] at hk; omega)
  refine eng_to hk mix_ok rfl rfl (ly := [([1, 2], ⟨[(3, true)], [(3, true)]⟩)]) hR (by kernel_rfl) (fun t ht => kvA_no fun e => ?_) (fun Λ hΛ => ?_)
  · rw [e] at ht
    revert ht
    decide
  have h0 : Λ [1, 2] ([(3, .own 3 0)], [(3, .sl true tEd ([] : List Edt))]) := by
    subst hΛ
    intro a W hR
    have hbW : Below w.heap.size w W := hR.low
    have hTW := hT.kept (hR.kept (by rw [hkb]))
    obtain ⟨tm, df⟩ := a
    obtain rfl : df = [] := hR.nd.2 rfl
    obtain ⟨x0, x1, x2, x3, x4, x5, x6, x7, x8, x9, x10, x11, x12, x13, x14, x15, x16, x17, x18, x19, x20, x21, x22, x23, rfl⟩ := arr24 tm hR.sz
    obtain rfl : x0 = .map (some b) := hR.kp 0 _ rfl
    show Code.wpIn (Fw none) 0 _ _ _ _ _
    refine wpIn_seq (wpIn_seq (ql_region rfl ?_))
    simp [ql, go_sem, Exit.then]
    refine keys_call.mono ?_
    rintro e W1 ⟨rfl, rfl⟩
    simp [ql, go_sem, Exit.then]
    refine (sorted_call hTW hl).mono ?_
    rintro e W2 ⟨v, rfl, hks, hb2⟩
    obtain ⟨ka, kc, ekv⟩ : ∃ ao c, v = .slice ao E.length c := by
      obtain ⟨u, e, ao, c, e2, _⟩ := hks
      cases e
      rw [List.length_map] at e2
      exact ⟨ao, c, e2⟩
    subst ekv
    simp [ql, go_sem, Exit.then]
    have hnI : inI (E.length : Int) := by unfold inI; omega
    have hok := hT.ok
    have hR2 := rel_new (kv' := kvA 0 (.map (some b))) (w' := W2) (E' := [(3, .own 3 0), (8, .d true tInts (E.map (·.1))), (9, .d true .int (E.length : Int)), (10, .d true .int 0)])
      (a' := ⟨#[.map (some b), x1, x2, x3, x4, x5, .map (some b), .func (.func 143) #[] #[.pointer (some ⟨W.heap.size, 0, none⟩)], .slice ka E.length kc, .int .i64 E.length, .int .i64 0, x11, x12, x13, x14, x15, x16, x17, x18, x19, x20, x21, x22, x23], []⟩) hR noIt1 hb2 rfl rfl (fun t v h => by obtain ⟨rfl, rfl⟩ := kvA_at h; rfl) (fun t U hU => by
        have hk7 := lk_key hU
        simp at hk7
        rcases hk7 with rfl | rfl | rfl | rfl
        · exact .inl ⟨3, hU, rfl⟩
        · cases hU
          exact .inr fun G hG => ⟨[.slice ka E.length kc], rfl, c_mono tInts hks fun k _ hk => hG k hk⟩
        · cases hU
          exact .inr fun G hG => ⟨[.int .i64 E.length], rfl, rfl, hnI⟩
        · cases hU
          exact .inr fun G hG => ⟨[.int .i64 0], rfl, rfl, by unfold inI; omega⟩)
    clear hR hks
    obtain ⟨A, hA⟩ : ∃ A : Nat → Act → World → Prop, A = fun (m : Nat) (a : Act) (Wc : World) => Rel Go.Proofs.Tryz.prog (hB w.heap.size (fun _ => True) (kvA 0 (.map (some b))) kb fun b => Wc.heap[b]?) w 24 (mkSt ([(3, .own 3 0), (8, .d true tInts (E.map (·.1))), (9, .d true .int (E.length : Int)), (10, .d true .int (m : Int))], [(3, .sl true tEd (editE (E.take m)))])) a Wc ∧ ownsT Wc b E := ⟨_, rfl⟩
    refine wpIn_block (wp_loopAt (loop_upX (n := E.length) A ?_ ?_ 0 (Nat.zero_le _) _ _ (by rw [hA]; exact ⟨hR2, hTW.kept (hb2.block b hTW.lt)⟩)))
    · intro a Wc hh
      rw [hA] at hh
      obtain ⟨hR, hTc⟩ := hh
      refine wpIn_seq (eng_thru hk mix_ok rfl rfl (ly := ⟨[(3, true), (11, true)], [(3, true)]⟩) (x := ([(3, .own 3 0), (11, .d true .bool (decide ((E.length : Int) < (E.length : Int))))], [(3, .sl true tEd (editE (E.take E.length)))])) hR (by kernel_rfl) (fun t ht => kvA_no fun e => ?_) ?_ ?_)
      · rw [e] at ht
        revert ht
        decide
      · have h0 : (([(3, V.own 3 0), (11, .d true .bool (decide ((E.length : Int) < (E.length : Int))))], [(3, L.sl true tEd (editE (E.take E.length)))]) : Lst) = ([(3, .own 3 0), (11, .d true .bool (decide ((E.length : Int) < (E.length : Int))))], [(3, .sl true tEd (editE (E.take E.length)))]) := rfl
        exact Eq.mpr (by kernel_rfl) h0
      · intro a W3 hR3
        simp only [Exit.then]
        have hb0 := rel_bool hR3 (d := 11) rfl
        refine wpIn_seq (wpIn_cond_false (by rw [hb0]; simp) (wpIn_exit ?_))
        simp only [Exit.then, Exit.inBlock, if_true]
        obtain ⟨tm, df⟩ := a
        obtain rfl : df = [] := hR3.nd.2 rfl
        obtain ⟨y0, y1, y2, y3, y4, y5, y6, y7, y8, y9, y10, y11, y12, y13, y14, y15, y16, y17, y18, y19, y20, y21, y22, y23, rfl⟩ := arr24 tm hR3.sz
        rw [List.take_length] at hR3
        obtain ⟨ob, hown, hob⟩ := rel_own hR3 (d := 3) (k := 3) rfl rfl
        refine wpIn_seq (ql_region rfl ?_)
        simp [ql, go_sem, Exit.then]
        refine wpIn_ret ?_
        exact ⟨rfl, _, results_tmp rfl _ _ _, y3, rfl, ⟨ob, hown, hob⟩, hR3.low⟩
    · intro m a Wc hm hh
      rw [hA] at hh
      obtain ⟨hR, hTc⟩ := hh
      refine wpIn_seq (eng_thru hk mix_ok rfl rfl (ly := ⟨[(3, true), (8, true), (9, true), (10, true), (11, true)], [(3, true)]⟩) (x := ([(3, .own 3 0), (8, .d true tInts (E.map (·.1))), (9, .d true .int (E.length : Int)), (10, .d true .int (m : Int)), (11, .d true .bool (decide ((m : Int) < (E.length : Int))))], [(3, .sl true tEd (editE (E.take m)))])) hR (by kernel_rfl) (fun t ht => kvA_no fun e => ?_) ?_ ?_)
      · rw [e] at ht
        revert ht
        decide
      · have h0 : (([(3, V.own 3 0), (8, .d true tInts (E.map (·.1))), (9, .d true .int (E.length : Int)), (10, .d true .int (m : Int)), (11, .d true .bool (decide ((m : Int) < (E.length : Int))))], [(3, L.sl true tEd (editE (E.take m)))]) : Lst) = ([(3, .own 3 0), (8, .d true tInts (E.map (·.1))), (9, .d true .int (E.length : Int)), (10, .d true .int (m : Int)), (11, .d true .bool (decide ((m : Int) < (E.length : Int))))], [(3, .sl true tEd (editE (E.take m)))]) := rfl
        exact Eq.mpr (by kernel_rfl) h0
      · intro a W3 hR3
        have hT3 := hTc.kept (hR3.kept (by rw [hkb]))
        simp only [Exit.then]
        have hb0 := rel_bool hR3 (d := 11) rfl
        refine wpIn_seq (wpIn_cond_true (by rw [hb0]; simp; omega) (wpIn_skip ?_))
        simp only [Exit.then]
        refine wpIn_seq (wpIn_block (wpIn_seq (eng_thru hk mix_ok rfl rfl (ly := ⟨[(3, true), (5, true), (8, true), (9, true), (10, true)], [(3, true)]⟩) (x := ([(3, .own 3 0), (5, .d true .int (List.getD (E.map (·.1)) (Int.toNat (m : Int)) 0)), (8, .d true tInts (E.map (·.1))), (9, .d true .int (E.length : Int)), (10, .d true .int (m : Int))], [(3, .sl true tEd (editE (E.take m)))])) hR3 (by kernel_rfl) (fun t ht => kvA_no fun e => ?_) ?_ ?_)))
        · rw [e] at ht
          revert ht
          decide
        · have h0 : idx (m : Int) ((E.map (·.1)).length : Int) ∧ (([(3, V.own 3 0), (5, .d true .int (List.getD (E.map (·.1)) (Int.toNat (m : Int)) 0)), (8, .d true tInts (E.map (·.1))), (9, .d true .int (E.length : Int)), (10, .d true .int (m : Int))], [(3, L.sl true tEd (editE (E.take m)))]) : Lst) = ([(3, .own 3 0), (5, .d true .int (List.getD (E.map (·.1)) (Int.toNat (m : Int)) 0)), (8, .d true tInts (E.map (·.1))), (9, .d true .int (E.length : Int)), (10, .d true .int (m : Int))], [(3, .sl true tEd (editE (E.take m)))]) := ⟨by rw [List.length_map]; unfold idx; omega, rfl⟩
          exact Eq.mpr (by kernel_rfl) h0
        · intro a W4 hR4
          have hT4 := hTc.kept (hR4.kept (by rw [hkb]))
          obtain ⟨k, l, hkl⟩ : ∃ k l, E[m]? = some (k, l) := ⟨E[m].1, E[m].2, by rw [List.getElem?_eq_getElem hm]⟩
          have hmem : (k, l) ∈ E := List.mem_of_getElem? hkl
          have hlk : lookE E k = some l := (look_mem hT.asc).2 hmem
          obtain ⟨hkI, hlI⟩ := hok _ hmem
          have hget : List.getD (E.map (·.1)) (Int.toNat (m : Int)) 0 = k := by
            rw [Int.toNat_natCast, List.getD_eq_getElem?_getD, List.getElem?_map, hkl]; rfl
          rw [hget] at hR4
          obtain ⟨tm, df⟩ := a
          obtain rfl : df = [] := hR4.nd.2 rfl
          obtain ⟨y0, y1, y2, y3, y4, y5, y6, y7, y8, y9, y10, y11, y12, y13, y14, y15, y16, y17, y18, y19, y20, y21, y22, y23, rfl⟩ := arr24 tm hR4.sz
          obtain rfl : y0 = .map (some b) := hR4.kp 0 _ rfl
          obtain rfl : y5 = .int .i64 k := (rel_int hR4 (d := 5) rfl).1
          have hlook := hT4.look hkI
          rw [hlk] at hlook
          simp only [lnV, Option.getD_some] at hlook
          simp only [Exit.then]
          refine ql_pre 5 (by decide) rfl ?_
          simp [ql, go_sem, hlook]
          have hR5 := rel_new (kv' := kvA 0 (.map (some b))) (w' := W4) (E' := [(3, .own 3 0), (8, .d true tInts (E.map (·.1))), (9, .d true .int (E.length : Int)), (10, .d true .int (m : Int)), (14, .own 3 0), (15, .d true .int k), (18, .d true tL l)])
            (a' := ⟨#[.map (some b), y1, y2, y3, y4, .int .i64 k, y6, y7, y8, y9, y10, y11, y12, y13, y3, .int .i64 k, .map (some b), .int .i64 k, .agg #[.int .i64 l.1, .int .i64 l.2.1, .int .i64 l.2.2.1, .int .i64 l.2.2.2.1], y19, y20, y21, y22, y23], []⟩) hR4 noIt1 (Below.refl _ _) rfl rfl (fun t v h => by obtain ⟨rfl, rfl⟩ := kvA_at h; rfl) (fun t U hU => by
              have hk7 := lk_key hU
              simp at hk7
              rcases hk7 with rfl | rfl | rfl | rfl | rfl | rfl | rfl
              · exact .inl ⟨3, hU, rfl⟩
              · exact .inl ⟨8, hU, rfl⟩
              · exact .inl ⟨9, hU, rfl⟩
              · exact .inl ⟨10, hU, rfl⟩
              · exact .inl ⟨3, hU, rfl⟩
              · cases hU
                exact .inr fun G hG => ⟨[.int .i64 k], rfl, rfl, hkI⟩
              · cases hU
                exact .inr fun G hG => ⟨_, rfl, ln_rep hlI⟩)
          have hel : (editE (E.take m)).length ≤ 1000 := by simp [editE]; omega
          have hsnoc : editE (E.take m) ++ [(k, l, ())] = editE (E.take (m + 1)) := by
            unfold editE
            rw [List.take_add_one, hkl, List.map_append]
            rfl
          rw [← List.append_nil (List.range' 5 4)]
          refine stretch_wp hk hR5 rfl 5 4 (fun o ho d hd => kvA_no fun e => ?_) (by kernel_rfl) (by kernel_rfl) (Φ := fun st => canK ⟨[(3, true), (8, true), (9, true), (10, true)], [(3, true)]⟩ (fun y => y = ([(3, .own 3 0), (8, .d true tInts (E.map (·.1))), (9, .d true .int (E.length : Int)), (10, .d true .int (m : Int))], [(3, .sl true tEd (editE (E.take m) ++ [(k, l, ())]))])) st) ?_ (fun st a W5 hΦ hR6 => ?_)
          · subst e
            revert hd
            revert o
            decide
          · have h0 : (List.length (editE (E.take m)) + List.length [(k, l, ())] ≤ 4294967296) ∧ (([(3, V.own 3 0), (8, .d true tInts (E.map (·.1))), (9, .d true .int (E.length : Int)), (10, .d true .int (m : Int))], [(3, L.sl true tEd (editE (E.take m) ++ [(k, l, ())]))]) : Lst) = ([(3, .own 3 0), (8, .d true tInts (E.map (·.1))), (9, .d true .int (E.length : Int)), (10, .d true .int (m : Int))], [(3, .sl true tEd (editE (E.take m) ++ [(k, l, ())]))]) := ⟨by simp; omega, rfl⟩
            exact Eq.mpr (by kernel_rfl) h0
          · obtain ⟨_, rfl, hR7⟩ := canK_ok hΦ hR6
            rw [hsnoc] at hR7
            show Exit.inBlock 1 _ .normal a W5
            simp only [Exit.inBlock, Exit.then]
            refine eng_thru hk mix_ok rfl rfl (ly := ⟨[(3, true), (8, true), (9, true), (10, true)], [(3, true)]⟩) (x := ([(3, .own 3 0), (8, .d true tInts (E.map (·.1))), (9, .d true .int (E.length : Int)), (10, .d true .int ((m : Int) + 1))], [(3, .sl true tEd (editE (E.take (m + 1))))])) hR7 (by kernel_rfl) (fun t ht => kvA_no fun e => ?_) ?_ ?_
            · rw [e] at ht
              revert ht
              decide
            · have h0 : inI ((m : Int) + 1) ∧ (([(3, V.own 3 0), (8, .d true tInts (E.map (·.1))), (9, .d true .int (E.length : Int)), (10, .d true .int ((m : Int) + 1))], [(3, L.sl true tEd (editE (E.take (m + 1))))]) : Lst) = ([(3, .own 3 0), (8, .d true tInts (E.map (·.1))), (9, .d true .int (E.length : Int)), (10, .d true .int ((m : Int) + 1))], [(3, .sl true tEd (editE (E.take (m + 1))))]) := ⟨by unfold inI; omega, rfl⟩
              exact Eq.mpr (by kernel_rfl) h0
            · intro a W6 hR8
              simp only [Exit.then]
              rw [hA]
              exact ⟨hR8.now noIt1, hTc.kept ((hR8.kept (by rw [hkb])).trans (hR4.kept (by rw [hkb])))⟩
  exact Eq.mpr (by kernel_rfl) h0
end Go.Tk
/- The edits of a table, if they are not too many. -/
set_option linter.unusedSimpArgs false
set_option linter.unusedVariables false
set_option linter.unnecessarySimpa false
set_option maxRecDepth 10000
set_option maxHeartbeats 400000
namespace Go.Tk
open Go Go.RowKit
theorem ownRes_nil (w W : World) : ownRes w [] (.slice none 0 0) W := ⟨none, .inl ⟨rfl, rfl, rfl⟩, fun b hb => by simp at hb⟩
theorem limited_call {w : World} {b : Nat} {E : List (Int × Lin)} (hT : ownsT w b E) (hl : E.length ≤ 1000) : Calls Go.Proofs.Tryz.prog 72 #[.map (some b)] w fun e w' => ∃ v, e = .returned (.tuple #[v, .int .i64 (if E.length > 4 then 3 else 0)]) ∧ ownRes w (if E.length > 4 then [] else editE E) v w' ∧ Below w.heap.size w w' := by
  have hlen := hT.len 3
  go_enter Go.Proofs.Tryz.func72, Go.Proofs.Tryz.ntmps72
  refine (wpIn_wide (n := 0)).1 ?_
  show Code.wpIn (Fw none) 0 _ _ _ _ _
  refine wpIn_seq (ql_region rfl ?_)
  simp [ql, go_sem, Exit.then]
  refine wpIn_seq (wpIn_seq (ql_region rfl ?_))
  simp [ql, go_sem, Exit.then, hlen]
  by_cases h4 : 4 < E.length
  · refine wpIn_cond_true (by simp [Act.eval]; omega) (wpIn_seq (ql_region rfl ?_))
    simp [ql, go_sem, Exit.then]
    refine wpIn_ret ?_
    refine ⟨rfl, .tuple #[.slice none 0 0, .int .i64 3], ?_, .slice none 0 0, ?_, ?_, Below.refl _ _⟩
    · simp [results, Go.Proofs.Tryz.results72, go_sem]
    · simp [h4]
    · rw [if_pos h4]; exact ownRes_nil _ _
  · refine wpIn_cond_false (by simp [Act.eval]; omega) (wpIn_skip ?_)
    simp only [Exit.then]
    refine wpIn_seq (ql_region rfl ?_)
    simp [ql, go_sem, Exit.then]
    refine (patch_call hT hl).mono ?_
    rintro e W1 ⟨v, rfl, hown, hb1⟩
    have hv : ∃ ao n c, v = .slice ao n c := by
      obtain ⟨ob, h | ⟨g, off, cap, cur, e, _, h, _⟩, _⟩ := hown
      · exact ⟨_, _, _, h.1⟩
      · exact ⟨_, _, _, h⟩
    obtain ⟨ao, nn, c, rfl⟩ := hv
    simp [ql, go_sem, Exit.then]
    refine wpIn_ret ?_
    refine ⟨rfl, .tuple #[.slice ao nn c, .int .i64 0], ?_, .slice ao nn c, ?_, ?_, hb1⟩
    · simp [results, Go.Proofs.Tryz.results72, go_sem]
    · simp [h4]
    · rw [if_neg h4]; exact hown
end Go.Tk
set_option linter.unusedSimpArgs false
set_option linter.unusedVariables false
namespace Go.Tk
open Go Go.RowKit

theorem idx_nat {i n : Nat} (h : i < n) : idx (i : Int) (n : Int) := ⟨by omega, by omega⟩
theorem inI_succ {i n : Nat} (h : i < n) (hn : n ≤ 140737488355328) : inI ((i : Int) + 1) := by unfold inI; omega

abbrev cWithin1 : Con := { A := (.cons .int (.cons .int (.cons .int .nil))), R := (.cons .bool .nil), pre := fun x => True, F := fun x => (within x.1 x.2.1 x.2.2.1, ()) }
def cWithin1_0  (n : Int) (lo : Int) (hi : Int) (y0 : Bool) : Prop :=
  if (decide (n ≥ lo)) = true then (True ∧ ((bif true then (decide (n ≤ hi)) else false) = y0 ∧ True)) else (false = false ∧ (false = y0 ∧ True))
theorem cWithin1_law (h : ∀ (n : Int) (lo : Int) (hi : Int), cWithin1.A.wf (n, lo, hi, ()) → cWithin1_0  n lo hi (within n lo hi)) : ConOK Go.Proofs.Tryz.prog 99 cWithin1 := by
  refine lawL (Γ := []) (Θ := Th) (n := 15) [] trivial (by kernel_rfl) th_ok mix_ok Go.Proofs.Tryz.func99 (by kernel_rfl) ?_
  intro x hw hp Λ hC
  have h0 := h x.1 x.2.1 x.2.2.1 hw  
  exact Eq.mpr (by kernel_rfl) h0
theorem cWithin1_ok : ConOK Go.Proofs.Tryz.prog 99 cWithin1 := by
  refine cWithin1_law ?_
  intro n lo hi hw
  unfold cWithin1_0
  unfold within
  split <;> simp_all
  omega
abbrev cIsReg1 : Con := { A := (.cons .int .nil), R := (.cons .bool .nil), pre := fun x => True, F := fun x => (isReg x.1, ()) }
def cIsReg1_0  (n : Int) (y0 : Bool) : Prop :=
  True ∧ ((within n (0 : Int) (3 : Int)) = y0 ∧ True)
theorem cIsReg1_law (h : ∀ (n : Int), cIsReg1.A.wf (n, ()) → cIsReg1_0  n (isReg n)) : ConOK Go.Proofs.Tryz.prog 98 cIsReg1 := by
  refine lawL (Γ := [(99, cWithin1)]) (Θ := Th) (n := 5) [] ⟨cWithin1_ok, trivial⟩ (by kernel_rfl) th_ok mix_ok Go.Proofs.Tryz.func98 (by kernel_rfl) ?_
  intro x hw hp Λ hC
  have h0 := h x.1 hw  
  exact Eq.mpr (by kernel_rfl) h0
theorem cIsReg1_ok : ConOK Go.Proofs.Tryz.prog 98 cIsReg1 := by
  refine cIsReg1_law ?_
  intro n hw
  unfold cIsReg1_0
  exact ⟨trivial, rfl, trivial⟩
abbrev cValLine : Con := { A := (.cons tL .nil), R := (.cons .int .nil), pre := fun x => True, F := fun x => (argErr (validLine x.1), ()) }
def cValLine_0  (l : Lin) (y0 : Int) : Prop :=
  if (l.1 == (0 : Int)) = true then (if (!(T.eqB tL l (0, 0, 0, 0, ()))) = true then ((1 : Int) = y0 ∧ True) else ((0 : Int) = y0 ∧ True)) else (if (l.1 == (1 : Int)) = true then (True ∧ (if (isReg l.2.1) = true then (True ∧ (True ∧ (if (bif true then (within l.2.2.1 (-9 : Int) (9 : Int)) else false) = true then (True ∧ (if (!(bif true then (l.2.2.2.1 == (0 : Int)) else false)) = true then ((1 : Int) = y0 ∧ True) else ((0 : Int) = y0 ∧ True))) else (false = false ∧ ((1 : Int) = y0 ∧ True))))) else (false = false ∧ (false = false ∧ ((1 : Int) = y0 ∧ True))))) else (if (l.1 == (2 : Int)) = true then (True ∧ (if (isReg l.2.1) = true then (True ∧ (True ∧ (if (bif true then (isReg l.2.2.1) else false) = true then (True ∧ (if (!(bif true then (l.2.2.2.1 == (0 : Int)) else false)) = true then ((1 : Int) = y0 ∧ True) else ((0 : Int) = y0 ∧ True))) else (false = false ∧ ((1 : Int) = y0 ∧ True))))) else (false = false ∧ (false = false ∧ ((1 : Int) = y0 ∧ True))))) else (if (l.1 == (3 : Int)) = true then (if (l.1 == (3 : Int)) = true then (True ∧ (if (isReg l.2.1) = true then (True ∧ (True ∧ (if (bif true then (isReg l.2.2.1) else false) = true then (True ∧ (True ∧ (if (!(bif true then (isReg l.2.2.2.1) else false)) = true then ((1 : Int) = y0 ∧ True) else ((0 : Int) = y0 ∧ True)))) else (false = false ∧ ((1 : Int) = y0 ∧ True))))) else (false = false ∧ (false = false ∧ ((1 : Int) = y0 ∧ True))))) else (if (l.1 == (7 : Int)) = true then (True ∧ (if (within l.2.1 (1 : Int) (8 : Int)) = true then (True ∧ (True ∧ (if (bif true then (isReg l.2.2.1) else false) = true then (True ∧ (True ∧ (if (!(bif true then (isReg l.2.2.2.1) else false)) = true then ((1 : Int) = y0 ∧ True) else ((0 : Int) = y0 ∧ True)))) else (false = false ∧ ((1 : Int) = y0 ∧ True))))) else (false = false ∧ (false = false ∧ ((1 : Int) = y0 ∧ True))))) else ((1 : Int) = y0 ∧ True))) else (if (l.1 == (4 : Int)) = true then (if (l.1 == (4 : Int)) = true then (True ∧ (if (isReg l.2.1) = true then (True ∧ (True ∧ (if (bif true then (isReg l.2.2.1) else false) = true then (True ∧ (True ∧ (if (!(bif true then (isReg l.2.2.2.1) else false)) = true then ((1 : Int) = y0 ∧ True) else ((0 : Int) = y0 ∧ True)))) else (false = false ∧ ((1 : Int) = y0 ∧ True))))) else (false = false ∧ (false = false ∧ ((1 : Int) = y0 ∧ True))))) else (if (l.1 == (7 : Int)) = true then (True ∧ (if (within l.2.1 (1 : Int) (8 : Int)) = true then (True ∧ (True ∧ (if (bif true then (isReg l.2.2.1) else false) = true then (True ∧ (True ∧ (if (!(bif true then (isReg l.2.2.2.1) else false)) = true then ((1 : Int) = y0 ∧ True) else ((0 : Int) = y0 ∧ True)))) else (false = false ∧ ((1 : Int) = y0 ∧ True))))) else (false = false ∧ (false = false ∧ ((1 : Int) = y0 ∧ True))))) else ((1 : Int) = y0 ∧ True))) else (if (l.1 == (5 : Int)) = true then (if (l.1 == (5 : Int)) = true then (True ∧ (if (isReg l.2.1) = true then (True ∧ (True ∧ (if (bif true then (isReg l.2.2.1) else false) = true then (True ∧ (True ∧ (if (!(bif true then (isReg l.2.2.2.1) else false)) = true then ((1 : Int) = y0 ∧ True) else ((0 : Int) = y0 ∧ True)))) else (false = false ∧ ((1 : Int) = y0 ∧ True))))) else (false = false ∧ (false = false ∧ ((1 : Int) = y0 ∧ True))))) else (if (l.1 == (7 : Int)) = true then (True ∧ (if (within l.2.1 (1 : Int) (8 : Int)) = true then (True ∧ (True ∧ (if (bif true then (isReg l.2.2.1) else false) = true then (True ∧ (True ∧ (if (!(bif true then (isReg l.2.2.2.1) else false)) = true then ((1 : Int) = y0 ∧ True) else ((0 : Int) = y0 ∧ True)))) else (false = false ∧ ((1 : Int) = y0 ∧ True))))) else (false = false ∧ (false = false ∧ ((1 : Int) = y0 ∧ True))))) else ((1 : Int) = y0 ∧ True))) else (if (l.1 == (6 : Int)) = true then (True ∧ (if (isReg l.2.1) = true then (True ∧ (True ∧ (if (bif true then (isReg l.2.2.1) else false) = true then (True ∧ (True ∧ (if (!(bif true then (isReg l.2.2.2.1) else false)) = true then ((1 : Int) = y0 ∧ True) else ((0 : Int) = y0 ∧ True)))) else (false = false ∧ ((1 : Int) = y0 ∧ True))))) else (false = false ∧ (false = false ∧ ((1 : Int) = y0 ∧ True))))) else (if (l.1 == (7 : Int)) = true then (True ∧ (if (within l.2.1 (1 : Int) (8 : Int)) = true then (True ∧ (True ∧ (if (bif true then (isReg l.2.2.1) else false) = true then (True ∧ (True ∧ (if (!(bif true then (isReg l.2.2.2.1) else false)) = true then ((1 : Int) = y0 ∧ True) else ((0 : Int) = y0 ∧ True)))) else (false = false ∧ ((1 : Int) = y0 ∧ True))))) else (false = false ∧ (false = false ∧ ((1 : Int) = y0 ∧ True))))) else ((1 : Int) = y0 ∧ True))))))))
theorem cValLine_law (h : ∀ (l : Lin), cValLine.A.wf (l, ()) → cValLine_0  l (argErr (validLine l))) : ConOK Go.Proofs.Tryz.prog 61 cValLine := by
  refine lawL (Γ := [(98, cIsReg1), (99, cWithin1)]) (Θ := Th) (n := 76) [] ⟨cIsReg1_ok, cWithin1_ok, trivial⟩ (by kernel_rfl) th_ok mix_ok Go.Proofs.Tryz.func61 (by kernel_rfl) ?_
  intro x hw hp Λ hC
  have h0 := h x.1 hw  
  exact Eq.mpr (by kernel_rfl) h0
theorem cValLine_ok : ConOK Go.Proofs.Tryz.prog 61 cValLine := by
  refine cValLine_law ?_
  intro l hw
  unfold cValLine_0
  obtain ⟨op, t, a, b, ⟨⟩⟩ := l
  repeat' split
  all_goals (simp_all [validLine, argErr, T.eqB, T.dflt])
  rintro rfl
  by_cases h1 : t = 0 <;> by_cases h2 : a = 0 <;> by_cases h3 : b = 0 <;> simp_all
abbrev cValP : Con := { A := (.cons (.sl tL) .nil), R := (.cons .int .nil), pre := fun x => True, F := fun x => (validP x.1, ()) }
def cValP_0 (Λ1 : Int → Prop) (p : (List Lin)) (y0 : Int) : Prop :=
  if (decide ((List.length p : Int) > (8 : Int))) = true then ((3 : Int) = y0 ∧ True) else Λ1 (0 : Int)
def cValP_1 (Λ1 : Int → Prop) (p : (List Lin)) (y0 : Int)  (t11_1 : Int) : Prop :=
  if (decide (t11_1 < (List.length p : Int))) = true then (idx t11_1 (List.length p : Int) ∧ (True ∧ (if ((argErr (validLine (List.getD p (Int.toNat t11_1) tL.dflt))) != (0 : Int)) = true then ((argErr (validLine (List.getD p (Int.toNat t11_1) tL.dflt))) = y0 ∧ True) else (inI (t11_1 + (1 : Int)) ∧ Λ1 (t11_1 + (1 : Int)))))) else ((0 : Int) = y0 ∧ True)
theorem cValP_law (h : ∀ (p : (List Lin)), cValP.A.wf (p, ()) → ∀ (Λ1 : Int → Prop), (∀ (t11_1 : Int), cValP_1 Λ1 p (validP p) t11_1 → Λ1 t11_1) → cValP_0 Λ1 p (validP p)) : ConOK Go.Proofs.Tryz.prog 80 cValP := by
  refine lawL (Γ := [(61, cValLine)]) (Θ := Th) (n := 21) [([1, 1, 0, 1, 0], ⟨[(9, false), (10, true), (11, true)], []⟩)] ⟨cValLine_ok, trivial⟩ (by kernel_rfl) th_ok mix_ok Go.Proofs.Tryz.func80 (by kernel_rfl) ?_
  intro x hw hp Λ hC
  have h0 := h x.1 hw (fun t11_1 => Λ [1, 1, 0, 1, 0] ([(9, .d false (.sl tL) x.1), (10, .d true .int (List.length x.1 : Int)), (11, .d true .int t11_1)], [])) (fun t11_1 hb => hC [1, 1, 0, 1, 0] ([(9, .d false (.sl tL) x.1), (10, .d true .int (List.length x.1 : Int)), (11, .d true .int t11_1)], []) (Eq.mpr (by kernel_rfl) hb))
  exact Eq.mpr (by kernel_rfl) h0
theorem cValP_ok : ConOK Go.Proofs.Tryz.prog 80 cValP := by
  refine cValP_law ?_
  intro p hw Λ1 h1
  unfold cValP_0
  simp only [decide_eq_true_eq]
  split
  · refine ⟨?_, trivial⟩
    unfold validP
    rw [if_pos (by omega)]
  · rename_i h8
    refine upto (n := p.length) (Q := fun i => (p.take i).all validLine = true → Λ1 i) ?_ ?_ 0 (Nat.zero_le _) rfl
    · intro ha
      rw [List.take_length] at ha
      apply h1; unfold cValP_1; rw [if_neg (by simp)]
      refine ⟨?_, trivial⟩
      unfold validP
      rw [if_neg (by omega), ha]; rfl
    · intro i hi ih ha
      apply h1; unfold cValP_1; rw [if_pos (by simpa using hi)]
      refine ⟨idx_nat hi, trivial, ?_⟩
      rw [Int.toNat_natCast]
      cases hv : validLine (List.getD p i tL.dflt)
      · rw [if_pos (by rfl)]
        refine ⟨?_, trivial⟩
        unfold validP
        rw [if_neg (by omega), all_false_at (p := validLine) tL.dflt hi hv]
      · rw [if_neg (by simp [argErr])]
        exact ⟨inI_succ hi (by omega), ih (all_take_next tL.dflt hi ha hv)⟩
abbrev cIndexI : Con := { A := (.cons (.sl .int) (.cons (.fn (.cons .int .nil) (.cons .bool .nil)) .nil)), R := (.cons .int .nil), pre := fun x => ∀ r, inI r → x.2.1.1 (r, ()), F := fun x => (idxF (fun r => (x.2.1.2 (r, ())).1) x.1, ()) }
def cIndexI_0 (Λ1 : Int → Prop) (s : (List Int)) (f : (T.fn (.cons .int .nil) (.cons .bool .nil)).den) (y0 : Int) : Prop :=
  Λ1 (0 : Int)
def cIndexI_1 (Λ1 : Int → Prop) (s : (List Int)) (f : (T.fn (.cons .int .nil) (.cons .bool .nil)).den) (y0 : Int)  (t8_1 : Int) : Prop :=
  if (decide (t8_1 < (List.length s : Int))) = true then (idx t8_1 (List.length s : Int) ∧ (f.1 ((List.getD s (Int.toNat t8_1) 0), ()) ∧ (if ((f.2 ((List.getD s (Int.toNat t8_1) 0), ())).1) = true then (t8_1 = y0 ∧ True) else (inI (t8_1 + (1 : Int)) ∧ Λ1 (t8_1 + (1 : Int)))))) else ((-1 : Int) = y0 ∧ True)
theorem cIndexI_law (h : ∀ (s : (List Int)) (f : (T.fn (.cons .int .nil) (.cons .bool .nil)).den), cIndexI.A.wf (s, f, ()) → (∀ r, inI r → f.1 (r, ())) → ∀ (Λ1 : Int → Prop), (∀ (t8_1 : Int), cIndexI_1 Λ1 s f (idxF (fun r => (f.2 (r, ())).1) s) t8_1 → Λ1 t8_1) → cIndexI_0 Λ1 s f (idxF (fun r => (f.2 (r, ())).1) s)) : ConOK Go.Proofs.Tryz.prog 132 cIndexI := by
  refine lawL (Γ := []) (Θ := Th) (n := 19) [([1, 0, 1, 0], ⟨[(0, false), (1, false), (7, true), (8, true)], []⟩)] trivial (by kernel_rfl) th_ok mix_ok Go.Proofs.Tryz.func132 (by kernel_rfl) ?_
  intro x hw hp Λ hC
  have h0 := h x.1 x.2.1 hw hp (fun t8_1 => Λ [1, 0, 1, 0] ([(0, .d false (.sl .int) x.1), (1, .d false (.fn (.cons .int .nil) (.cons .bool .nil)) x.2.1), (7, .d true .int (List.length x.1 : Int)), (8, .d true .int t8_1)], [])) (fun t8_1 hb => hC [1, 0, 1, 0] ([(0, .d false (.sl .int) x.1), (1, .d false (.fn (.cons .int .nil) (.cons .bool .nil)) x.2.1), (7, .d true .int (List.length x.1 : Int)), (8, .d true .int t8_1)], []) (Eq.mpr (by kernel_rfl) hb))
  exact Eq.mpr (by kernel_rfl) h0
theorem cIndexI_ok : ConOK Go.Proofs.Tryz.prog 132 cIndexI := by
  refine cIndexI_law ?_
  intro s f hw hp Λ1 h1
  unfold cIndexI_0
  refine upto (n := s.length) (Q := fun i => (s.take i).any (fun r => (f.2 (r, ())).1) = false → Λ1 i) ?_ ?_ 0 (Nat.zero_le _) rfl
  · intro ha
    rw [List.take_length] at ha
    apply h1; unfold cIndexI_1; rw [if_neg (by simp), idxF_none ha]
    exact ⟨rfl, trivial⟩
  · intro i hi ih ha
    apply h1; unfold cIndexI_1; rw [if_pos (by simpa using hi), Int.toNat_natCast]
    refine ⟨idx_nat hi, hp _ (hw.1.2 _ (mem_getD hi)), ?_⟩
    cases hv : (f.2 (List.getD s i 0, ())).1
    · rw [if_neg (by simp)]
      exact ⟨inI_succ hi hw.1.1, ih (any_take_next (p := fun r => (f.2 (r, ())).1) 0 hi ha hv)⟩
    · rw [if_pos (by rfl), idxF_at (p := fun r => (f.2 (r, ())).1) 0 hi ha hv]
      exact ⟨rfl, trivial⟩
abbrev cContI : Con := { A := (.cons (.sl .int) (.cons (.fn (.cons .int .nil) (.cons .bool .nil)) .nil)), R := (.cons .bool .nil), pre := fun x => ∀ r, inI r → x.2.1.1 (r, ()), F := fun x => (x.1.any (fun r => (x.2.1.2 (r, ())).1), ()) }
def cContI_0  (s : (List Int)) (f : (T.fn (.cons .int .nil) (.cons .bool .nil)).den) (y0 : Bool) : Prop :=
  (∀ r, inI r → f.1 (r, ())) ∧ ((decide ((idxF (fun r => (f.2 (r, ())).1) s) ≥ (0 : Int))) = y0 ∧ True)
theorem cContI_law (h : ∀ (s : (List Int)) (f : (T.fn (.cons .int .nil) (.cons .bool .nil)).den), cContI.A.wf (s, f, ()) → (∀ r, inI r → f.1 (r, ())) → cContI_0  s f (s.any (fun r => (f.2 (r, ())).1))) : ConOK Go.Proofs.Tryz.prog 157 cContI := by
  refine lawL (Γ := [(132, cIndexI)]) (Θ := Th) (n := 9) [] ⟨cIndexI_ok, trivial⟩ (by kernel_rfl) th_ok mix_ok Go.Proofs.Tryz.func157 (by kernel_rfl) ?_
  intro x hw hp Λ hC
  have h0 := h x.1 x.2.1 hw hp  
  exact Eq.mpr (by kernel_rfl) h0
theorem cContI_ok : ConOK Go.Proofs.Tryz.prog 157 cContI := by
  refine cContI_law ?_
  intro s f hw hp
  unfold cContI_0
  exact ⟨hp, idxF_any _ _, trivial⟩
abbrev cNotVal1 : Con := { A := (.cons .int .nil), R := (.cons .bool .nil), pre := fun x => True, F := fun x => (!(isVal x.1), ()) }
def cNotVal1_0  (n : Int) (y0 : Bool) : Prop :=
  True ∧ ((!(within n (-999 : Int) (999 : Int))) = y0 ∧ True)
theorem cNotVal1_law (h : ∀ (n : Int), cNotVal1.A.wf (n, ()) → cNotVal1_0  n (!(isVal n))) : ConOK Go.Proofs.Tryz.prog 158 cNotVal1 := by
  refine lawL (Γ := [(99, cWithin1)]) (Θ := Th) (n := 6) [] ⟨cWithin1_ok, trivial⟩ (by kernel_rfl) th_ok mix_ok Go.Proofs.Tryz.func158 (by kernel_rfl) ?_
  intro x hw hp Λ hC
  have h0 := h x.1 hw  
  exact Eq.mpr (by kernel_rfl) h0
theorem cNotVal1_ok : ConOK Go.Proofs.Tryz.prog 158 cNotVal1 := by
  refine cNotVal1_law ?_
  intro n hw
  unfold cNotVal1_0
  exact ⟨trivial, rfl, trivial⟩
abbrev cValS : Con := { A := (.cons (.sl .int) .nil), R := (.cons .int .nil), pre := fun x => True, F := fun x => (argErr (validS x.1), ()) }
def cValS_0  (in_ : (List Int)) (y0 : Int) : Prop :=
  if ((List.length in_ : Int) != (4 : Int)) = true then (true = true ∧ ((1 : Int) = y0 ∧ True)) else ((∀ r, inI r → (fun (xx : (Int × Unit)) => True, fun (xx : (Int × Unit)) => (!(isVal xx.1), ())).1 (r, ())) ∧ (True ∧ (if (bif false then true else (in_.any (fun r => ((fun (xx : (Int × Unit)) => True, fun (xx : (Int × Unit)) => (!(isVal xx.1), ())).2 (r, ())).1))) = true then ((1 : Int) = y0 ∧ True) else ((0 : Int) = y0 ∧ True))))
theorem cValS_law (h : ∀ (in_ : (List Int)), cValS.A.wf (in_, ()) → cValS_0  in_ (argErr (validS in_))) : ConOK Go.Proofs.Tryz.prog 149 cValS := by
  refine lawL (Γ := [(157, cContI), (158, cNotVal1)]) (Θ := Th) (n := 10) [] ⟨cContI_ok, cNotVal1_ok, trivial⟩ (by kernel_rfl) th_ok mix_ok Go.Proofs.Tryz.func149 (by kernel_rfl) ?_
  intro x hw hp Λ hC
  have h0 := h x.1 hw  
  exact Eq.mpr (by kernel_rfl) h0
theorem cValS_ok : ConOK Go.Proofs.Tryz.prog 149 cValS := by
  refine cValS_law ?_
  intro in_ hw
  unfold cValS_0
  unfold validS
  simp only [bne_iff_ne, ne_eq]
  split
  · rename_i h4
    rw [show decide (in_.length = 4) = false by simp; omega]
    exact ⟨trivial, rfl, trivial⟩
  · rename_i h4
    rw [show decide (in_.length = 4) = true by simp; omega]
    refine ⟨fun _ _ => trivial, trivial, ?_⟩
    show if (in_.any fun r => !isVal r) = true then _ else _
    rw [any_not_all]
    cases in_.all isVal <;> exact ⟨rfl, trivial⟩
abbrev cCheck1 : Con := { A := (.cons (.sl tL) (.cons (.sl .int) .nil)), R := (.cons .int .nil), pre := fun x => True, F := fun x => ((if validP x.1 = 0 then argErr (validS x.2.1) else validP x.1), ()) }
def cCheck1_0  (p : (List Lin)) (in_ : (List Int)) (y0 : Int) : Prop :=
  True ∧ (if ((validP p) != (0 : Int)) = true then ((validP p) = y0 ∧ True) else (True ∧ ((argErr (validS in_)) = y0 ∧ True)))
theorem cCheck1_law (h : ∀ (p : (List Lin)) (in_ : (List Int)), cCheck1.A.wf (p, in_, ()) → cCheck1_0  p in_ (if validP p = 0 then argErr (validS in_) else validP p)) : ConOK Go.Proofs.Tryz.prog 146 cCheck1 := by
  refine lawL (Γ := [(80, cValP), (149, cValS)]) (Θ := Th) (n := 13) [] ⟨cValP_ok, cValS_ok, trivial⟩ (by kernel_rfl) th_ok mix_ok Go.Proofs.Tryz.func146 (by kernel_rfl) ?_
  intro x hw hp Λ hC
  have h0 := h x.1 x.2.1 hw  
  exact Eq.mpr (by kernel_rfl) h0
theorem cCheck1_ok : ConOK Go.Proofs.Tryz.prog 146 cCheck1 := by
  refine cCheck1_law ?_
  intro p in_ hw
  unfold cCheck1_0
  split <;> simp_all
/-! The reference's -/
abbrev cWithinR1 : Con := { A := (.cons .int (.cons .int (.cons .int .nil))), R := (.cons .bool .nil), pre := fun x => True, F := fun x => (within x.1 x.2.1 x.2.2.1, ()) }
def cWithinR1_0  (n : Int) (lo : Int) (hi : Int) (y0 : Bool) : Prop :=
  if (decide (n ≥ lo)) = true then (True ∧ ((bif true then (decide (n ≤ hi)) else false) = y0 ∧ True)) else (false = false ∧ (false = y0 ∧ True))
theorem cWithinR1_law (h : ∀ (n : Int) (lo : Int) (hi : Int), cWithinR1.A.wf (n, lo, hi, ()) → cWithinR1_0  n lo hi (within n lo hi)) : ConOK Go.Proofs.Tryz.prog 124 cWithinR1 := by
  refine lawL (Γ := []) (Θ := Th) (n := 15) [] trivial (by kernel_rfl) th_ok mix_ok Go.Proofs.Tryz.func124 (by kernel_rfl) ?_
  intro x hw hp Λ hC
  have h0 := h x.1 x.2.1 x.2.2.1 hw  
  exact Eq.mpr (by kernel_rfl) h0
theorem cWithinR1_ok : ConOK Go.Proofs.Tryz.prog 124 cWithinR1 := by
  refine cWithinR1_law ?_
  intro n lo hi hw
  unfold cWithinR1_0
  unfold within
  split <;> simp_all
  omega
abbrev cIsRegR1 : Con := { A := (.cons .int .nil), R := (.cons .bool .nil), pre := fun x => True, F := fun x => (isReg x.1, ()) }
def cIsRegR1_0  (n : Int) (y0 : Bool) : Prop :=
  True ∧ ((within n (0 : Int) (3 : Int)) = y0 ∧ True)
theorem cIsRegR1_law (h : ∀ (n : Int), cIsRegR1.A.wf (n, ()) → cIsRegR1_0  n (isReg n)) : ConOK Go.Proofs.Tryz.prog 123 cIsRegR1 := by
  refine lawL (Γ := [(124, cWithinR1)]) (Θ := Th) (n := 5) [] ⟨cWithinR1_ok, trivial⟩ (by kernel_rfl) th_ok mix_ok Go.Proofs.Tryz.func123 (by kernel_rfl) ?_
  intro x hw hp Λ hC
  have h0 := h x.1 hw  
  exact Eq.mpr (by kernel_rfl) h0
theorem cIsRegR1_ok : ConOK Go.Proofs.Tryz.prog 123 cIsRegR1 := by
  refine cIsRegR1_law ?_
  intro n hw
  unfold cIsRegR1_0
  exact ⟨trivial, rfl, trivial⟩
abbrev cIsLineR : Con := { A := (.cons tL .nil), R := (.cons .bool .nil), pre := fun x => True, F := fun x => (validLine x.1, ()) }
def cIsLineR_0  (l : Lin) (y0 : Bool) : Prop :=
  if (l.1 == (0 : Int)) = true then (if (l.2.1 == (0 : Int)) = true then (True ∧ (if (bif true then (l.2.2.1 == (0 : Int)) else false) = true then (True ∧ ((bif true then (l.2.2.2.1 == (0 : Int)) else false) = y0 ∧ True)) else (false = false ∧ (false = y0 ∧ True)))) else (false = false ∧ (false = false ∧ (false = y0 ∧ True)))) else (if (l.1 == (1 : Int)) = true then (True ∧ (if (isReg l.2.1) = true then (True ∧ (True ∧ (if (bif true then (within l.2.2.1 (-9 : Int) (9 : Int)) else false) = true then (True ∧ ((bif true then (l.2.2.2.1 == (0 : Int)) else false) = y0 ∧ True)) else (false = false ∧ (false = y0 ∧ True))))) else (false = false ∧ (false = false ∧ (false = y0 ∧ True))))) else (if (l.1 == (2 : Int)) = true then (True ∧ (if (isReg l.2.1) = true then (True ∧ (True ∧ (if (bif true then (isReg l.2.2.1) else false) = true then (True ∧ ((bif true then (l.2.2.2.1 == (0 : Int)) else false) = y0 ∧ True)) else (false = false ∧ (false = y0 ∧ True))))) else (false = false ∧ (false = false ∧ (false = y0 ∧ True))))) else (if (l.1 == (3 : Int)) = true then (if (l.1 == (3 : Int)) = true then (True ∧ (if (isReg l.2.1) = true then (True ∧ (True ∧ (if (bif true then (isReg l.2.2.1) else false) = true then (True ∧ (True ∧ ((bif true then (isReg l.2.2.2.1) else false) = y0 ∧ True))) else (false = false ∧ (false = y0 ∧ True))))) else (false = false ∧ (false = false ∧ (false = y0 ∧ True))))) else (if (l.1 == (7 : Int)) = true then (True ∧ (if (within l.2.1 (1 : Int) (8 : Int)) = true then (True ∧ (True ∧ (if (bif true then (isReg l.2.2.1) else false) = true then (True ∧ (True ∧ ((bif true then (isReg l.2.2.2.1) else false) = y0 ∧ True))) else (false = false ∧ (false = y0 ∧ True))))) else (false = false ∧ (false = false ∧ (false = y0 ∧ True))))) else (false = y0 ∧ True))) else (if (l.1 == (4 : Int)) = true then (if (l.1 == (4 : Int)) = true then (True ∧ (if (isReg l.2.1) = true then (True ∧ (True ∧ (if (bif true then (isReg l.2.2.1) else false) = true then (True ∧ (True ∧ ((bif true then (isReg l.2.2.2.1) else false) = y0 ∧ True))) else (false = false ∧ (false = y0 ∧ True))))) else (false = false ∧ (false = false ∧ (false = y0 ∧ True))))) else (if (l.1 == (7 : Int)) = true then (True ∧ (if (within l.2.1 (1 : Int) (8 : Int)) = true then (True ∧ (True ∧ (if (bif true then (isReg l.2.2.1) else false) = true then (True ∧ (True ∧ ((bif true then (isReg l.2.2.2.1) else false) = y0 ∧ True))) else (false = false ∧ (false = y0 ∧ True))))) else (false = false ∧ (false = false ∧ (false = y0 ∧ True))))) else (false = y0 ∧ True))) else (if (l.1 == (5 : Int)) = true then (if (l.1 == (5 : Int)) = true then (True ∧ (if (isReg l.2.1) = true then (True ∧ (True ∧ (if (bif true then (isReg l.2.2.1) else false) = true then (True ∧ (True ∧ ((bif true then (isReg l.2.2.2.1) else false) = y0 ∧ True))) else (false = false ∧ (false = y0 ∧ True))))) else (false = false ∧ (false = false ∧ (false = y0 ∧ True))))) else (if (l.1 == (7 : Int)) = true then (True ∧ (if (within l.2.1 (1 : Int) (8 : Int)) = true then (True ∧ (True ∧ (if (bif true then (isReg l.2.2.1) else false) = true then (True ∧ (True ∧ ((bif true then (isReg l.2.2.2.1) else false) = y0 ∧ True))) else (false = false ∧ (false = y0 ∧ True))))) else (false = false ∧ (false = false ∧ (false = y0 ∧ True))))) else (false = y0 ∧ True))) else (if (l.1 == (6 : Int)) = true then (True ∧ (if (isReg l.2.1) = true then (True ∧ (True ∧ (if (bif true then (isReg l.2.2.1) else false) = true then (True ∧ (True ∧ ((bif true then (isReg l.2.2.2.1) else false) = y0 ∧ True))) else (false = false ∧ (false = y0 ∧ True))))) else (false = false ∧ (false = false ∧ (false = y0 ∧ True))))) else (if (l.1 == (7 : Int)) = true then (True ∧ (if (within l.2.1 (1 : Int) (8 : Int)) = true then (True ∧ (True ∧ (if (bif true then (isReg l.2.2.1) else false) = true then (True ∧ (True ∧ ((bif true then (isReg l.2.2.2.1) else false) = y0 ∧ True))) else (false = false ∧ (false = y0 ∧ True))))) else (false = false ∧ (false = false ∧ (false = y0 ∧ True))))) else (false = y0 ∧ True))))))))
theorem cIsLineR_law (h : ∀ (l : Lin), cIsLineR.A.wf (l, ()) → cIsLineR_0  l (validLine l)) : ConOK Go.Proofs.Tryz.prog 100 cIsLineR := by
  refine lawL (Γ := [(123, cIsRegR1), (124, cWithinR1)]) (Θ := Th) (n := 83) [] ⟨cIsRegR1_ok, cWithinR1_ok, trivial⟩ (by kernel_rfl) th_ok mix_ok Go.Proofs.Tryz.func100 (by kernel_rfl) ?_
  intro x hw hp Λ hC
  have h0 := h x.1 hw  
  exact Eq.mpr (by kernel_rfl) h0
theorem cIsLineR_ok : ConOK Go.Proofs.Tryz.prog 100 cIsLineR := by
  refine cIsLineR_law ?_
  intro l hw
  unfold cIsLineR_0
  obtain ⟨op, t, a, b, ⟨⟩⟩ := l
  repeat' split
  all_goals (simp_all [validLine, argErr, T.eqB, T.dflt, beq_dec])
abbrev cValLineR : Con := { A := (.cons tL .nil), R := (.cons .int .nil), pre := fun x => True, F := fun x => (argErr (validLine x.1), ()) }
def cValLineR_0  (l : Lin) (y0 : Int) : Prop :=
  True ∧ (if (!(validLine l)) = true then ((1 : Int) = y0 ∧ True) else ((0 : Int) = y0 ∧ True))
theorem cValLineR_law (h : ∀ (l : Lin), cValLineR.A.wf (l, ()) → cValLineR_0  l (argErr (validLine l))) : ConOK Go.Proofs.Tryz.prog 62 cValLineR := by
  refine lawL (Γ := [(100, cIsLineR)]) (Θ := Th) (n := 6) [] ⟨cIsLineR_ok, trivial⟩ (by kernel_rfl) th_ok mix_ok Go.Proofs.Tryz.func62 (by kernel_rfl) ?_
  intro x hw hp Λ hC
  have h0 := h x.1 hw  
  exact Eq.mpr (by kernel_rfl) h0
theorem cValLineR_ok : ConOK Go.Proofs.Tryz.prog 62 cValLineR := by
  refine cValLineR_law ?_
  intro l hw
  unfold cValLineR_0
  split <;> simp_all [argErr]
abbrev cValPR : Con := { A := (.cons (.sl tL) .nil), R := (.cons .int .nil), pre := fun x => True, F := fun x => (validP x.1, ()) }
def cValPR_0 (Λ1 : Int → Prop) (p : (List Lin)) (y0 : Int) : Prop :=
  if (decide ((List.length p : Int) > (8 : Int))) = true then ((3 : Int) = y0 ∧ True) else Λ1 (0 : Int)
def cValPR_1 (Λ1 : Int → Prop) (p : (List Lin)) (y0 : Int)  (i_1 : Int) : Prop :=
  if (decide (i_1 < (List.length p : Int))) = true then (idx i_1 (List.length p : Int) ∧ (True ∧ (if (!(validLine (List.getD p (Int.toNat i_1) tL.dflt))) = true then ((1 : Int) = y0 ∧ True) else (inI (i_1 + (1 : Int)) ∧ Λ1 (i_1 + (1 : Int)))))) else ((0 : Int) = y0 ∧ True)
theorem cValPR_law (h : ∀ (p : (List Lin)), cValPR.A.wf (p, ()) → ∀ (Λ1 : Int → Prop), (∀ (i_1 : Int), cValPR_1 Λ1 p (validP p) i_1 → Λ1 i_1) → cValPR_0 Λ1 p (validP p)) : ConOK Go.Proofs.Tryz.prog 81 cValPR := by
  refine lawL (Γ := [(100, cIsLineR)]) (Θ := Th) (n := 19) [([1, 1, 0, 1, 0], ⟨[(0, false), (3, true)], []⟩)] ⟨cIsLineR_ok, trivial⟩ (by kernel_rfl) th_ok mix_ok Go.Proofs.Tryz.func81 (by kernel_rfl) ?_
  intro x hw hp Λ hC
  have h0 := h x.1 hw (fun i_1 => Λ [1, 1, 0, 1, 0] ([(0, .d false (.sl tL) x.1), (3, .d true .int i_1)], [])) (fun i_1 hb => hC [1, 1, 0, 1, 0] ([(0, .d false (.sl tL) x.1), (3, .d true .int i_1)], []) (Eq.mpr (by kernel_rfl) hb))
  exact Eq.mpr (by kernel_rfl) h0
theorem cValPR_ok : ConOK Go.Proofs.Tryz.prog 81 cValPR := by
  refine cValPR_law ?_
  intro p hw Λ1 h1
  unfold cValPR_0
  simp only [decide_eq_true_eq]
  split
  · refine ⟨?_, trivial⟩
    unfold validP
    rw [if_pos (by omega)]
  · rename_i h8
    refine upto (n := p.length) (Q := fun i => (p.take i).all validLine = true → Λ1 i) ?_ ?_ 0 (Nat.zero_le _) rfl
    · intro ha
      rw [List.take_length] at ha
      apply h1; unfold cValPR_1; rw [if_neg (by simp)]
      refine ⟨?_, trivial⟩
      unfold validP
      rw [if_neg (by omega), ha]; rfl
    · intro i hi ih ha
      apply h1; unfold cValPR_1; rw [if_pos (by simpa using hi)]
      refine ⟨idx_nat hi, trivial, ?_⟩
      rw [Int.toNat_natCast]
      cases hv : validLine (List.getD p i tL.dflt)
      · rw [if_pos (by rfl)]
        refine ⟨?_, trivial⟩
        unfold validP
        rw [if_neg (by omega), all_false_at (p := validLine) tL.dflt hi hv]
        rfl
      · rw [if_neg (by simp)]
        exact ⟨inI_succ hi (by omega), ih (all_take_next tL.dflt hi ha hv)⟩
abbrev cValSR : Con := { A := (.cons (.sl .int) .nil), R := (.cons .int .nil), pre := fun x => True, F := fun x => (argErr (validS x.1), ()) }
def cValSR_0 (Λ1 : Int → Prop) (in_ : (List Int)) (y0 : Int) : Prop :=
  if ((List.length in_ : Int) != (4 : Int)) = true then ((1 : Int) = y0 ∧ True) else Λ1 (0 : Int)
def cValSR_1 (Λ1 : Int → Prop) (in_ : (List Int)) (y0 : Int)  (i_1 : Int) : Prop :=
  if (decide (i_1 < (List.length in_ : Int))) = true then (idx i_1 (List.length in_ : Int) ∧ (True ∧ (if (!(within (List.getD in_ (Int.toNat i_1) 0) (-999 : Int) (999 : Int))) = true then ((1 : Int) = y0 ∧ True) else (inI (i_1 + (1 : Int)) ∧ Λ1 (i_1 + (1 : Int)))))) else ((0 : Int) = y0 ∧ True)
theorem cValSR_law (h : ∀ (in_ : (List Int)), cValSR.A.wf (in_, ()) → ∀ (Λ1 : Int → Prop), (∀ (i_1 : Int), cValSR_1 Λ1 in_ (argErr (validS in_)) i_1 → Λ1 i_1) → cValSR_0 Λ1 in_ (argErr (validS in_))) : ConOK Go.Proofs.Tryz.prog 139 cValSR := by
  refine lawL (Γ := [(124, cWithinR1)]) (Θ := Th) (n := 19) [([1, 1, 0, 1, 0], ⟨[(0, false), (3, true)], []⟩)] ⟨cWithinR1_ok, trivial⟩ (by kernel_rfl) th_ok mix_ok Go.Proofs.Tryz.func139 (by kernel_rfl) ?_
  intro x hw hp Λ hC
  have h0 := h x.1 hw (fun i_1 => Λ [1, 1, 0, 1, 0] ([(0, .d false (.sl .int) x.1), (3, .d true .int i_1)], [])) (fun i_1 hb => hC [1, 1, 0, 1, 0] ([(0, .d false (.sl .int) x.1), (3, .d true .int i_1)], []) (Eq.mpr (by kernel_rfl) hb))
  exact Eq.mpr (by kernel_rfl) h0
theorem cValSR_ok : ConOK Go.Proofs.Tryz.prog 139 cValSR := by
  refine cValSR_law ?_
  intro in_ hw Λ1 h1
  unfold cValSR_0
  simp only [bne_iff_ne, ne_eq]
  split
  · refine ⟨?_, trivial⟩
    unfold validS
    rw [show decide (in_.length = 4) = false by simp; omega]; rfl
  · rename_i h8
    refine upto (n := in_.length) (Q := fun i => (in_.take i).all isVal = true → Λ1 i) ?_ ?_ 0 (Nat.zero_le _) rfl
    · intro ha
      rw [List.take_length] at ha
      apply h1; unfold cValSR_1; rw [if_neg (by simp)]
      refine ⟨?_, trivial⟩
      unfold validS
      rw [ha, show decide (in_.length = 4) = true by simp; omega]; rfl
    · intro i hi ih ha
      apply h1; unfold cValSR_1; rw [if_pos (by simpa using hi)]
      refine ⟨idx_nat hi, trivial, ?_⟩
      rw [Int.toNat_natCast]
      cases hv : isVal (List.getD in_ i 0)
      · rw [if_pos (by unfold isVal at hv; rw [hv]; rfl)]
        refine ⟨?_, trivial⟩
        unfold validS
        rw [all_false_at (p := isVal) 0 hi hv, Bool.and_false]; rfl
      · rw [if_neg (by unfold isVal at hv; rw [hv]; simp)]
        exact ⟨inI_succ hi (by omega), ih (all_take_next 0 hi ha hv)⟩
abbrev cAskedR : Con := { A := (.cons (.sl tL) (.cons (.sl .int) .nil)), R := (.cons .int .nil), pre := fun x => True, F := fun x => ((if validP x.1 = 0 then argErr (validS x.2.1) else validP x.1), ()) }
def cAskedR_0  (p : (List Lin)) (in_ : (List Int)) (y0 : Int) : Prop :=
  True ∧ (if ((validP p) != (0 : Int)) = true then ((validP p) = y0 ∧ True) else (True ∧ ((argErr (validS in_)) = y0 ∧ True)))
theorem cAskedR_law (h : ∀ (p : (List Lin)) (in_ : (List Int)), cAskedR.A.wf (p, in_, ()) → cAskedR_0  p in_ (if validP p = 0 then argErr (validS in_) else validP p)) : ConOK Go.Proofs.Tryz.prog 170 cAskedR := by
  refine lawL (Γ := [(81, cValPR), (139, cValSR)]) (Θ := Th) (n := 13) [] ⟨cValPR_ok, cValSR_ok, trivial⟩ (by kernel_rfl) th_ok mix_ok Go.Proofs.Tryz.func170 (by kernel_rfl) ?_
  intro x hw hp Λ hC
  have h0 := h x.1 x.2.1 hw  
  exact Eq.mpr (by kernel_rfl) h0
theorem cAskedR_ok : ConOK Go.Proofs.Tryz.prog 170 cAskedR := by
  refine cAskedR_law ?_
  intro p in_ hw
  unfold cAskedR_0
  split <;> simp_all
end Go.Tk
set_option linter.unusedSimpArgs false
set_option linter.unusedVariables false
set_option linter.unnecessarySimpa false
namespace Go.Tk
open Go Go.RowKit

abbrev cValX : Con := { A := (.cons (.sl tEd) .nil), R := (.cons .int .nil), pre := fun x => True, F := fun x => (validX x.1, ()) }
def cValX_0 (Λ1 : Int → Prop) (x : (List Edt)) (y0 : Int) : Prop :=
  if (decide ((List.length x : Int) > (4 : Int))) = true then ((3 : Int) = y0 ∧ True) else Λ1 (0 : Int)
def cValX_1 (Λ1 : Int → Prop) (x : (List Edt)) (y0 : Int)  (t10_1 : Int) : Prop :=
  if (decide (t10_1 < (List.length x : Int))) = true then (idx t10_1 (List.length x : Int) ∧ (if (decide ((List.getD x (Int.toNat t10_1) tEd.dflt).1 < (0 : Int))) = true then (true = true ∧ (true = true ∧ (true = true ∧ ((1 : Int) = y0 ∧ True)))) else (True ∧ (if (bif false then true else (decide ((List.getD x (Int.toNat t10_1) tEd.dflt).1 ≥ (8 : Int)))) = true then (true = true ∧ (true = true ∧ ((1 : Int) = y0 ∧ True))) else (if (decide (t10_1 > (0 : Int))) = true then (inI (t10_1 - (1 : Int)) ∧ (idx (t10_1 - (1 : Int)) (List.length x : Int) ∧ (True ∧ (True ∧ (if (bif false then true else (bif true then (decide ((List.getD x (Int.toNat (t10_1 - (1 : Int))) tEd.dflt).1 ≥ (List.getD x (Int.toNat t10_1) tEd.dflt).1)) else false)) = true then (true = true ∧ ((1 : Int) = y0 ∧ True)) else (True ∧ (True ∧ (if (bif false then true else ((argErr (validLine ((List.getD x (Int.toNat t10_1) tEd.dflt).2.1))) != (0 : Int))) = true then ((1 : Int) = y0 ∧ True) else (inI (t10_1 + (1 : Int)) ∧ Λ1 (t10_1 + (1 : Int))))))))))) else (false = false ∧ (True ∧ (if (bif false then true else false) = true then (true = true ∧ ((1 : Int) = y0 ∧ True)) else (True ∧ (True ∧ (if (bif false then true else ((argErr (validLine ((List.getD x (Int.toNat t10_1) tEd.dflt).2.1))) != (0 : Int))) = true then ((1 : Int) = y0 ∧ True) else (inI (t10_1 + (1 : Int)) ∧ Λ1 (t10_1 + (1 : Int)))))))))))))) else ((0 : Int) = y0 ∧ True)
theorem cValX_law (h : ∀ (x : (List Edt)), cValX.A.wf (x, ()) → ∀ (Λ1 : Int → Prop), (∀ (t10_1 : Int), cValX_1 Λ1 x (validX x) t10_1 → Λ1 t10_1) → cValX_0 Λ1 x (validX x)) : ConOK Go.Proofs.Tryz.prog 19 cValX := by
  refine lawL (Γ := [(61, cValLine)]) (Θ := Th) (n := 45) [([1, 1, 0, 1, 0], ⟨[(0, false), (8, false), (9, true), (10, true)], []⟩)] ⟨cValLine_ok, trivial⟩ (by kernel_rfl) th_ok mix_ok Go.Proofs.Tryz.func19 (by kernel_rfl) ?_
  intro x hw hp Λ hC
  have h0 := h x.1 hw (fun t10_1 => Λ [1, 1, 0, 1, 0] ([(0, .d false (.sl tEd) x.1), (8, .d false (.sl tEd) x.1), (9, .d true .int (List.length x.1 : Int)), (10, .d true .int t10_1)], [])) (fun t10_1 hb => hC [1, 1, 0, 1, 0] ([(0, .d false (.sl tEd) x.1), (8, .d false (.sl tEd) x.1), (9, .d true .int (List.length x.1 : Int)), (10, .d true .int t10_1)], []) (Eq.mpr (by kernel_rfl) hb))
  exact Eq.mpr (by kernel_rfl) h0
theorem cValX_ok : ConOK Go.Proofs.Tryz.prog 19 cValX := by
  refine cValX_law ?_
  intro x hw Λ1 h1
  unfold cValX_0
  by_cases h4 : x.length > 4
  · rw [if_pos (by simp; omega)]
    unfold validX
    rw [if_pos h4]; exact ⟨rfl, trivial⟩
  · rw [if_neg (by simp; omega)]
    have hv : validX x = argErr (okTo x x.length) := by unfold validX; rw [if_neg h4]
    have bad : ∀ i, i < x.length → edOK x i = false → 1 = validX x := fun i hi e => by rw [hv, okTo_false e _ hi]; rfl
    refine upto (n := x.length) (Q := fun i => okTo x i = true → Λ1 i) ?_ ?_ 0 (Nat.zero_le _) rfl
    · intro ha
      apply h1; unfold cValX_1; rw [if_neg (by simp), hv, ha]
      exact ⟨rfl, trivial⟩
    · intro i hi ih ha
      apply h1; unfold cValX_1; rw [if_pos (by simpa using hi), Int.toNat_natCast]
      refine ⟨idx_nat hi, ?_⟩
      have hb := bad i hi
      have ok : edOK x i = true → okTo x (i + 1) = true := fun e => by unfold okTo; rw [ha, e]; rfl
      unfold edOK at hb ok
      by_cases a1 : (x.getD i tEd.dflt).1 < 0
      · rw [if_pos (by simpa using a1)]
        exact ⟨rfl, rfl, rfl, hb (by rw [decide_eq_true a1]; rfl), trivial⟩
      rw [if_neg (by simpa using a1)]
      refine ⟨trivial, ?_⟩
      by_cases a2 : (x.getD i tEd.dflt).1 ≥ 8
      · rw [if_pos (by simpa using a2)]
        exact ⟨rfl, rfl, hb (by rw [decide_eq_true a2, Bool.or_true]; rfl), trivial⟩
      rw [if_neg (by simpa using a2)]
      have fin : (decide (i > 0) && decide ((x.getD (i - 1) tEd.dflt).1 ≥ (x.getD i tEd.dflt).1)) = false → (if (bif false then true else ((argErr (validLine ((x.getD i tEd.dflt).2.1))) != (0 : Int))) = true then ((1 : Int) = validX x ∧ True) else (inI ((i : Int) + (1 : Int)) ∧ Λ1 ((i : Int) + (1 : Int)))) := by
        intro e3
        cases a4 : validLine (x.getD i tEd.dflt).2.1
        · rw [if_pos (by rfl)]
          exact ⟨hb (by rw [a4]; simp), trivial⟩
        · rw [if_neg (by simp [argErr])]
          refine ⟨inI_succ hi (by omega), ih (ok ?_)⟩
          rw [a4, e3, decide_eq_false a1, decide_eq_false a2]; rfl
      by_cases a3 : i > 0
      · rw [if_pos (by simp; omega)]
        have e1 : ((i : Int) - 1).toNat = i - 1 := by omega
        rw [e1]
        refine ⟨by unfold inI; omega, ⟨by omega, by omega⟩, trivial, trivial, ?_⟩
        by_cases a5 : (x.getD (i - 1) tEd.dflt).1 ≥ (x.getD i tEd.dflt).1
        · rw [if_pos (by simpa using a5)]
          refine ⟨rfl, hb ?_, trivial⟩
          rw [decide_eq_true a3, decide_eq_true a5]; simp
        · rw [if_neg (by simpa using a5)]
          exact ⟨trivial, trivial, fin (by rw [decide_eq_false a5, Bool.and_false])⟩
      · rw [if_neg (by simp; omega)]
        refine ⟨rfl, trivial, ?_⟩
        rw [if_neg (by simp)]
        exact ⟨trivial, trivial, fin (by rw [decide_eq_false a3, Bool.false_and])⟩
abbrev cIndexE : Con := { A := (.cons (.sl tEd) (.cons (.fn (.cons tEd .nil) (.cons .bool .nil)) .nil)), R := (.cons .int .nil), pre := fun x => ∀ r' ∈ x.1, x.2.1.1 (r', ()), F := fun x => (idxF (fun r' => (x.2.1.2 (r', ())).1) x.1, ()) }
def cIndexE_0 (Λ1 : Int → Prop) (s : (List Edt)) (f : (T.fn (.cons tEd .nil) (.cons .bool .nil)).den) (y0 : Int) : Prop :=
  Λ1 (0 : Int)
def cIndexE_1 (Λ1 : Int → Prop) (s : (List Edt)) (f : (T.fn (.cons tEd .nil) (.cons .bool .nil)).den) (y0 : Int)  (t8_1 : Int) : Prop :=
  if (decide (t8_1 < (List.length s : Int))) = true then (idx t8_1 (List.length s : Int) ∧ (f.1 ((List.getD s (Int.toNat t8_1) tEd.dflt), ()) ∧ (if ((f.2 ((List.getD s (Int.toNat t8_1) tEd.dflt), ())).1) = true then (t8_1 = y0 ∧ True) else (inI (t8_1 + (1 : Int)) ∧ Λ1 (t8_1 + (1 : Int)))))) else ((-1 : Int) = y0 ∧ True)
theorem cIndexE_law (h : ∀ (s : (List Edt)) (f : (T.fn (.cons tEd .nil) (.cons .bool .nil)).den), cIndexE.A.wf (s, f, ()) → (∀ r' ∈ s, f.1 (r', ())) → ∀ (Λ1 : Int → Prop), (∀ (t8_1 : Int), cIndexE_1 Λ1 s f (idxF (fun r' => (f.2 (r', ())).1) s) t8_1 → Λ1 t8_1) → cIndexE_0 Λ1 s f (idxF (fun r' => (f.2 (r', ())).1) s)) : ConOK Go.Proofs.Tryz.prog 112 cIndexE := by
  refine lawL (Γ := []) (Θ := Th) (n := 19) [([1, 0, 1, 0], ⟨[(0, false), (1, false), (7, true), (8, true)], []⟩)] trivial (by kernel_rfl) th_ok mix_ok Go.Proofs.Tryz.func112 (by kernel_rfl) ?_
  intro x hw hp Λ hC
  have h0 := h x.1 x.2.1 hw hp (fun t8_1 => Λ [1, 0, 1, 0] ([(0, .d false (.sl tEd) x.1), (1, .d false (.fn (.cons tEd .nil) (.cons .bool .nil)) x.2.1), (7, .d true .int (List.length x.1 : Int)), (8, .d true .int t8_1)], [])) (fun t8_1 hb => hC [1, 0, 1, 0] ([(0, .d false (.sl tEd) x.1), (1, .d false (.fn (.cons tEd .nil) (.cons .bool .nil)) x.2.1), (7, .d true .int (List.length x.1 : Int)), (8, .d true .int t8_1)], []) (Eq.mpr (by kernel_rfl) hb))
  exact Eq.mpr (by kernel_rfl) h0
theorem cIndexE_ok : ConOK Go.Proofs.Tryz.prog 112 cIndexE := by
  refine cIndexE_law ?_
  intro s f hw hp Λ1 h1
  unfold cIndexE_0
  refine upto (n := s.length) (Q := fun i => (s.take i).any (fun r => (f.2 (r, ())).1) = false → Λ1 i) ?_ ?_ 0 (Nat.zero_le _) rfl
  · intro ha
    rw [List.take_length] at ha
    apply h1; unfold cIndexE_1; rw [if_neg (by simp), idxF_none ha]
    exact ⟨rfl, trivial⟩
  · intro i hi ih ha
    apply h1; unfold cIndexE_1; rw [if_pos (by simpa using hi), Int.toNat_natCast]
    refine ⟨idx_nat hi, hp _ (mem_getD hi), ?_⟩
    cases hv : (f.2 (List.getD s i tEd.dflt, ())).1
    · rw [if_neg (by simp)]
      exact ⟨inI_succ hi hw.1.1, ih (any_take_next (p := fun r => (f.2 (r, ())).1) tEd.dflt hi ha hv)⟩
    · rw [if_pos (by rfl), idxF_at (p := fun r => (f.2 (r, ())).1) tEd.dflt hi ha hv]
      exact ⟨rfl, trivial⟩
abbrev cContE : Con := { A := (.cons (.sl tEd) (.cons (.fn (.cons tEd .nil) (.cons .bool .nil)) .nil)), R := (.cons .bool .nil), pre := fun x => ∀ r' ∈ x.1, x.2.1.1 (r', ()), F := fun x => (x.1.any (fun r' => (x.2.1.2 (r', ())).1), ()) }
def cContE_0  (s : (List Edt)) (f : (T.fn (.cons tEd .nil) (.cons .bool .nil)).den) (y0 : Bool) : Prop :=
  (∀ r' ∈ s, f.1 (r', ())) ∧ ((decide ((idxF (fun r' => (f.2 (r', ())).1) s) ≥ (0 : Int))) = y0 ∧ True)
theorem cContE_law (h : ∀ (s : (List Edt)) (f : (T.fn (.cons tEd .nil) (.cons .bool .nil)).den), cContE.A.wf (s, f, ()) → (∀ r' ∈ s, f.1 (r', ())) → cContE_0  s f (s.any (fun r' => (f.2 (r', ())).1))) : ConOK Go.Proofs.Tryz.prog 95 cContE := by
  refine lawL (Γ := [(112, cIndexE)]) (Θ := Th) (n := 9) [] ⟨cIndexE_ok, trivial⟩ (by kernel_rfl) th_ok mix_ok Go.Proofs.Tryz.func95 (by kernel_rfl) ?_
  intro x hw hp Λ hC
  have h0 := h x.1 x.2.1 hw hp  
  exact Eq.mpr (by kernel_rfl) h0
theorem cContE_ok : ConOK Go.Proofs.Tryz.prog 95 cContE := by
  refine cContE_law ?_
  intro s f hw hp
  unfold cContE_0
  exact ⟨hp, idxF_any _ _, trivial⟩
end Go.Tk
/- Plain facts: what a run of a program does (layer 1). No program in sight. -/
set_option linter.unusedSimpArgs false
set_option linter.unusedVariables false
namespace Go.Tk
open Go Go.RowKit

def cut (n : Int) : Int := max (-999) (min 999 n)
def Rg (s : List Int) (i : Int) : Int := List.getD s i.toNat 0
/-- What a line that writes makes of a state, before it is cut. -/
def wval (l : Lin) (s : List Int) : Int :=
  if l.1 = 1 then l.2.2.1
  else if l.1 = 2 then Rg s l.2.2.1
  else if l.1 = 3 then Rg s l.2.2.1 + Rg s l.2.2.2.1
  else if l.1 = 4 then Rg s l.2.2.1 - Rg s l.2.2.2.1
  else if l.1 = 5 then min (Rg s l.2.2.1) (Rg s l.2.2.2.1)
  else max (Rg s l.2.2.1) (Rg s l.2.2.2.1)
def writes (l : Lin) : Bool := decide (1 ≤ l.1 ∧ l.1 ≤ 6)

/-- What a forced line writes: a number, if it is forced. -/
abbrev Frc := Int → Option Int
def wnum (fr : Frc) (l : Lin) (i : Nat) (s : List Int) : Int := match fr i with
  | some n => n
  | none => wval l s
def stepTo (l : Lin) (i : Nat) (s : List Int) : Nat := if l.1 = 7 ∧ Rg s l.2.2.1 < Rg s l.2.2.2.1 then i + 1 + l.2.1.toNat else i + 1
def stepS (fr : Frc) (l : Lin) (i : Nat) (s : List Int) : List Int := if writes l then s.set l.2.1.toNat (cut (wnum fr l i s)) else s
abbrev Vst := Int × List Int × Unit
def runF (p : List Lin) (fr : Frc) : Nat → Nat → List Int → List Vst × List Int
  | 0, _, s => ([], s)
  | f + 1, i, s => if i < p.length then (((i : Int), s, ()) :: (runF p fr f (stepTo (p.getD i tL.dflt) i s) (stepS fr (p.getD i tL.dflt) i s)).1, (runF p fr f (stepTo (p.getD i tL.dflt) i s) (stepS fr (p.getD i tL.dflt) i s)).2) else ([], s)
def noFrc : Frc := fun _ => none
def visits (p : List Lin) (fr : Frc) (s : List Int) : List Vst := (runF p fr (p.length + 1) 0 s).1
def endS (p : List Lin) (fr : Frc) (s : List Int) : List Int := (runF p fr (p.length + 1) 0 s).2
def runS (p : List Lin) (s : List Int) : List Int := endS p noFrc s
def doneS (p : List Lin) (s : List Int) : List Int := (visits p noFrc s).map (·.1)

theorem stepTo_gt (l : Lin) (i : Nat) (s : List Int) : i < stepTo l i s := by unfold stepTo; split <;> omega

theorem runF_more (p : List Lin) (fr : Frc) : ∀ (f i : Nat) (s : List Int), p.length < i + f → runF p fr (f + 1) i s = runF p fr f i s
  | 0, i, s, h => by
    unfold runF
    rw [if_neg (by omega)]
  | f + 1, i, s, h => by
    rw [runF]
    conv => rhs; rw [runF]
    by_cases hi : i < p.length
    · rw [if_pos hi, if_pos hi, runF_more p fr f _ _ (by have := stepTo_gt (p.getD i tL.dflt) i s; omega)]
    · rw [if_neg hi, if_neg hi]

theorem isVal_iff {n : Int} : isVal n = true ↔ -999 ≤ n ∧ n ≤ 999 := within_iff
theorem validS_iff {s : List Int} : validS s = true ↔ s.length = 4 ∧ ∀ n ∈ s, -999 ≤ n ∧ n ≤ 999 := by
  unfold validS
  rw [Bool.and_eq_true, List.all_eq_true]
  simp [isVal_iff]
theorem validS_len {s : List Int} (h : validS s = true) : s.length = 4 := (validS_iff.1 h).1
theorem validS_get {s : List Int} (h : validS s = true) (i : Int) : -999 ≤ Rg s i ∧ Rg s i ≤ 999 := by
  unfold Rg
  rcases Nat.lt_or_ge i.toNat s.length with g | g
  · exact (validS_iff.1 h).2 _ (mem_getD g)
  · rw [List.getD_eq_getElem?_getD, List.getElem?_eq_none g]; decide
theorem validS_set {s : List Int} (h : validS s = true) (i : Nat) {n : Int} (hn : -999 ≤ n ∧ n ≤ 999) : validS (s.set i n) = true := by
  rw [validS_iff] at *
  refine ⟨by simp [h.1], fun x hx => ?_⟩
  rcases List.mem_or_eq_of_mem_set hx with g | rfl
  · exact h.2 x g
  · exact hn
theorem cut_bd (n : Int) : -999 ≤ cut n ∧ cut n ≤ 999 := by unfold cut; omega
theorem stepS_ok (fr : Frc) (l : Lin) (i : Nat) {s : List Int} (h : validS s = true) : validS (stepS fr l i s) = true := by
  unfold stepS
  split
  · exact validS_set h _ (cut_bd _)
  · exact h
theorem runF_ok (p : List Lin) (fr : Frc) : ∀ (f i : Nat) (s : List Int), validS s = true → validS (runF p fr f i s).2 = true ∧ ∀ v ∈ (runF p fr f i s).1, (i : Int) ≤ v.1 ∧ v.1 < p.length ∧ validS v.2.1 = true
  | 0, i, s, h => ⟨h, fun v hv => by simp [runF] at hv⟩
  | f + 1, i, s, h => by
    rw [runF]
    split
    · rename_i hi
      obtain ⟨g1, g2⟩ := runF_ok p fr f (stepTo (p.getD i tL.dflt) i s) (stepS fr (p.getD i tL.dflt) i s) (stepS_ok fr _ i h)
      refine ⟨g1, fun v hv => ?_⟩
      rcases List.mem_cons.1 hv with rfl | hv
      · exact ⟨Int.le_refl _, by simpa using hi, h⟩
      · have g3 := g2 v hv
        have := stepTo_gt (p.getD i tL.dflt) i s
        exact ⟨by omega, g3.2.1, g3.2.2⟩
    · exact ⟨h, fun v hv => by simp at hv⟩
theorem runF_len (p : List Lin) (fr : Frc) : ∀ (f i : Nat) (s : List Int), (runF p fr f i s).1.length ≤ f
  | 0, _, _ => by simp [runF]
  | f + 1, i, s => by
    rw [runF]
    split
    · simp only [List.length_cons]
      have := runF_len p fr f (stepTo (p.getD i tL.dflt) i s) (stepS fr (p.getD i tL.dflt) i s)
      omega
    · simp
theorem runF_lt (p : List Lin) (fr : Frc) : ∀ (f i : Nat) (s : List Int), (runF p fr f i s).1.length + i ≤ max p.length i
  | 0, i, _ => by simp [runF]; omega
  | f + 1, i, s => by
    rw [runF]
    split
    · simp only [List.length_cons]
      have := runF_lt p fr f (stepTo (p.getD i tL.dflt) i s) (stepS fr (p.getD i tL.dflt) i s)
      have := stepTo_gt (p.getD i tL.dflt) i s
      omega
    · simp; omega
theorem runS_ok {p : List Lin} {s : List Int} (h : validS s = true) : validS (runS p s) = true := (runF_ok p noFrc _ 0 s h).1
theorem visits_len (p : List Lin) (fr : Frc) (s : List Int) : (visits p fr s).length ≤ p.length := by have := runF_lt p fr (p.length + 1) 0 s; unfold visits; omega
theorem visits_ok {p : List Lin} {fr : Frc} {s : List Int} (h : validS s = true) : ∀ v ∈ visits p fr s, 0 ≤ v.1 ∧ v.1 < p.length ∧ validS v.2.1 = true := fun v hv => by
  have := (runF_ok p fr _ 0 s h).2 v hv
  exact ⟨by omega, this.2⟩

def err1 (p : List Lin) (s : List Int) : Int := if validP p = 0 then argErr (validS s) else validP p
theorem err1_ok {p : List Lin} {s : List Int} (h : err1 p s = 0) : validP p = 0 ∧ validS s = true := by
  unfold err1 at h
  split at h
  · exact ⟨by assumption, argErr_zero.1 h⟩
  · rename_i g; exact absurd h g

theorem validLine_at {p : List Lin} (h : p.all validLine = true) {i : Nat} (hi : i < p.length) : validLine (p.getD i tL.dflt) = true := List.all_eq_true.1 h _ (mem_getD hi)
/-- What is known of the numbers of a right line. -/
theorem line_regs {l : Lin} (h : validLine l = true) : (2 ≤ l.1 ∧ l.1 ≤ 7 → 0 ≤ l.2.2.1 ∧ l.2.2.1 ≤ 3) ∧ (3 ≤ l.1 ∧ l.1 ≤ 7 → 0 ≤ l.2.2.2.1 ∧ l.2.2.2.1 ≤ 3) ∧ (1 ≤ l.1 ∧ l.1 ≤ 6 → 0 ≤ l.2.1 ∧ l.2.1 ≤ 3) ∧ (l.1 = 7 → 1 ≤ l.2.1 ∧ l.2.1 ≤ 8) ∧ (l.1 = 1 → -9 ≤ l.2.2.1 ∧ l.2.2.1 ≤ 9) ∧ 0 ≤ l.1 ∧ l.1 ≤ 7 := by
  obtain ⟨op, t, x, y, ⟨⟩⟩ := l
  exact validLine_regs h

/-- What a function that is handed over forces. -/
def frcOf (F : Int × Unit → Int × Bool × Unit) : Frc := fun i => if (F (i, ())).2.1 = true then some (F (i, ())).1 else none

end Go.Tk
set_option linter.unusedSimpArgs false
set_option linter.unusedVariables false
namespace Go.Tk
open Go Go.RowKit

def allOps : List Opn := [tOpn.dflt, (0, (fun (x : (Int × Int × Int × Unit)) => True, fun (x : (Int × Int × Int × Unit)) => (x.2.2.1, ())), ()), (1, (fun (x : (Int × Int × Int × Unit)) => True, fun (x : (Int × Int × Int × Unit)) => (x.1, ())), ()), (2, (fun (x : (Int × Int × Int × Unit)) => inI (x.1 + x.2.1), fun (x : (Int × Int × Int × Unit)) => (x.1 + x.2.1, ())), ()), (2, (fun (x : (Int × Int × Int × Unit)) => inI (x.1 - x.2.1), fun (x : (Int × Int × Int × Unit)) => (x.1 - x.2.1, ())), ()), (2, (fun (x : (Int × Int × Int × Unit)) => True, fun (x : (Int × Int × Int × Unit)) => (min x.1 x.2.1, ())), ()), (2, (fun (x : (Int × Int × Int × Unit)) => True, fun (x : (Int × Int × Int × Unit)) => (max x.1 x.2.1, ())), ()), (2, (T.fn (.cons .int (.cons .int (.cons .int .nil))) (.cons .int .nil)).dflt, ())]
abbrev cOp1 : Con := { A := (.cons .int (.cons .int (.cons .int .nil))), R := (.cons .int .nil), pre := fun x => True, F := fun x => (x.2.2.1, ()) }
def cOp1_0  (a : Int) (b : Int) (number : Int) (y0 : Int) : Prop :=
  number = y0 ∧ True
theorem cOp1_law (h : ∀ (a : Int) (b : Int) (number : Int), cOp1.A.wf (a, b, number, ()) → cOp1_0  a b number number) : ConOK Go.Proofs.Tryz.prog 172 cOp1 := by
  refine lawL (Γ := []) (Θ := Th) (n := 8) [] trivial (by kernel_rfl) th_ok mix_ok Go.Proofs.Tryz.func172 (by kernel_rfl) ?_
  intro x hw hp Λ hC
  have h0 := h x.1 x.2.1 x.2.2.1 hw  
  exact Eq.mpr (by kernel_rfl) h0
theorem cOp1_ok : ConOK Go.Proofs.Tryz.prog 172 cOp1 := by
  refine cOp1_law ?_
  intro a b number hw
  unfold cOp1_0
  exact ⟨rfl, trivial⟩
abbrev cOp2 : Con := { A := (.cons .int (.cons .int (.cons .int .nil))), R := (.cons .int .nil), pre := fun x => True, F := fun x => (x.1, ()) }
def cOp2_0  (a : Int) (b : Int) (number : Int) (y0 : Int) : Prop :=
  a = y0 ∧ True
theorem cOp2_law (h : ∀ (a : Int) (b : Int) (number : Int), cOp2.A.wf (a, b, number, ()) → cOp2_0  a b number a) : ConOK Go.Proofs.Tryz.prog 173 cOp2 := by
  refine lawL (Γ := []) (Θ := Th) (n := 8) [] trivial (by kernel_rfl) th_ok mix_ok Go.Proofs.Tryz.func173 (by kernel_rfl) ?_
  intro x hw hp Λ hC
  have h0 := h x.1 x.2.1 x.2.2.1 hw  
  exact Eq.mpr (by kernel_rfl) h0
theorem cOp2_ok : ConOK Go.Proofs.Tryz.prog 173 cOp2 := by
  refine cOp2_law ?_
  intro a b number hw
  unfold cOp2_0
  exact ⟨rfl, trivial⟩
abbrev cOp3 : Con := { A := (.cons .int (.cons .int (.cons .int .nil))), R := (.cons .int .nil), pre := fun x => inI (x.1 + x.2.1), F := fun x => (x.1 + x.2.1, ()) }
def cOp3_0  (a : Int) (b : Int) (number : Int) (y0 : Int) : Prop :=
  inI (a + b) ∧ ((a + b) = y0 ∧ True)
theorem cOp3_law (h : ∀ (a : Int) (b : Int) (number : Int), cOp3.A.wf (a, b, number, ()) → (inI (a + b)) → cOp3_0  a b number (a + b)) : ConOK Go.Proofs.Tryz.prog 174 cOp3 := by
  refine lawL (Γ := []) (Θ := Th) (n := 10) [] trivial (by kernel_rfl) th_ok mix_ok Go.Proofs.Tryz.func174 (by kernel_rfl) ?_
  intro x hw hp Λ hC
  have h0 := h x.1 x.2.1 x.2.2.1 hw hp  
  exact Eq.mpr (by kernel_rfl) h0
theorem cOp3_ok : ConOK Go.Proofs.Tryz.prog 174 cOp3 := by
  refine cOp3_law ?_
  intro a b number hw hp
  unfold cOp3_0
  exact ⟨hp, rfl, trivial⟩
abbrev cOp4 : Con := { A := (.cons .int (.cons .int (.cons .int .nil))), R := (.cons .int .nil), pre := fun x => inI (x.1 - x.2.1), F := fun x => (x.1 - x.2.1, ()) }
def cOp4_0  (a : Int) (b : Int) (number : Int) (y0 : Int) : Prop :=
  inI (a - b) ∧ ((a - b) = y0 ∧ True)
theorem cOp4_law (h : ∀ (a : Int) (b : Int) (number : Int), cOp4.A.wf (a, b, number, ()) → (inI (a - b)) → cOp4_0  a b number (a - b)) : ConOK Go.Proofs.Tryz.prog 175 cOp4 := by
  refine lawL (Γ := []) (Θ := Th) (n := 10) [] trivial (by kernel_rfl) th_ok mix_ok Go.Proofs.Tryz.func175 (by kernel_rfl) ?_
  intro x hw hp Λ hC
  have h0 := h x.1 x.2.1 x.2.2.1 hw hp  
  exact Eq.mpr (by kernel_rfl) h0
theorem cOp4_ok : ConOK Go.Proofs.Tryz.prog 175 cOp4 := by
  refine cOp4_law ?_
  intro a b number hw hp
  unfold cOp4_0
  exact ⟨hp, rfl, trivial⟩
abbrev cOp5 : Con := { A := (.cons .int (.cons .int (.cons .int .nil))), R := (.cons .int .nil), pre := fun x => True, F := fun x => (min x.1 x.2.1, ()) }
def cOp5_0  (a : Int) (b : Int) (number : Int) (y0 : Int) : Prop :=
  (min a b) = y0 ∧ True
theorem cOp5_law (h : ∀ (a : Int) (b : Int) (number : Int), cOp5.A.wf (a, b, number, ()) → cOp5_0  a b number (min a b)) : ConOK Go.Proofs.Tryz.prog 176 cOp5 := by
  refine lawL (Γ := []) (Θ := Th) (n := 10) [] trivial (by kernel_rfl) th_ok mix_ok Go.Proofs.Tryz.func176 (by kernel_rfl) ?_
  intro x hw hp Λ hC
  have h0 := h x.1 x.2.1 x.2.2.1 hw  
  exact Eq.mpr (by kernel_rfl) h0
theorem cOp5_ok : ConOK Go.Proofs.Tryz.prog 176 cOp5 := by
  refine cOp5_law ?_
  intro a b number hw
  unfold cOp5_0
  exact ⟨rfl, trivial⟩
abbrev cOp6 : Con := { A := (.cons .int (.cons .int (.cons .int .nil))), R := (.cons .int .nil), pre := fun x => True, F := fun x => (max x.1 x.2.1, ()) }
def cOp6_0  (a : Int) (b : Int) (number : Int) (y0 : Int) : Prop :=
  (max a b) = y0 ∧ True
theorem cOp6_law (h : ∀ (a : Int) (b : Int) (number : Int), cOp6.A.wf (a, b, number, ()) → cOp6_0  a b number (max a b)) : ConOK Go.Proofs.Tryz.prog 177 cOp6 := by
  refine lawL (Γ := []) (Θ := Th) (n := 10) [] trivial (by kernel_rfl) th_ok mix_ok Go.Proofs.Tryz.func177 (by kernel_rfl) ?_
  intro x hw hp Λ hC
  have h0 := h x.1 x.2.1 x.2.2.1 hw  
  exact Eq.mpr (by kernel_rfl) h0
theorem cOp6_ok : ConOK Go.Proofs.Tryz.prog 177 cOp6 := by
  refine cOp6_law ?_
  intro a b number hw
  unfold cOp6_0
  exact ⟨rfl, trivial⟩
abbrev cOperations : Con := { A := .nil, R := (.cons (.arr 8 tOpn) .nil), pre := fun x => True, F := fun x => (allOps, ()) }
def cOperations_0   (y0 : (List Opn)) : Prop :=
  (List.set (List.set (List.set (List.set (List.set (List.set (List.set (List.replicate 8 tOpn.dflt) 1 (0, (fun (xx : (Int × Int × Int × Unit)) => True, fun (xx : (Int × Int × Int × Unit)) => (xx.2.2.1, ())), ())) 2 (1, (fun (xx : (Int × Int × Int × Unit)) => True, fun (xx : (Int × Int × Int × Unit)) => (xx.1, ())), ())) 3 (2, (fun (xx : (Int × Int × Int × Unit)) => inI (xx.1 + xx.2.1), fun (xx : (Int × Int × Int × Unit)) => (xx.1 + xx.2.1, ())), ())) 4 (2, (fun (xx : (Int × Int × Int × Unit)) => inI (xx.1 - xx.2.1), fun (xx : (Int × Int × Int × Unit)) => (xx.1 - xx.2.1, ())), ())) 5 (2, (fun (xx : (Int × Int × Int × Unit)) => True, fun (xx : (Int × Int × Int × Unit)) => (min xx.1 xx.2.1, ())), ())) 6 (2, (fun (xx : (Int × Int × Int × Unit)) => True, fun (xx : (Int × Int × Int × Unit)) => (max xx.1 xx.2.1, ())), ())) 7 (2, (T.fn (.cons .int (.cons .int (.cons .int .nil))) (.cons .int .nil)).dflt, ())) = y0 ∧ True
theorem cOperations_law (h : cOperations.A.wf (()) → cOperations_0   allOps) : ConOK Go.Proofs.Tryz.prog 155 cOperations := by
  refine lawL (Γ := [(172, cOp1), (173, cOp2), (174, cOp3), (175, cOp4), (176, cOp5), (177, cOp6)]) (Θ := Th) (n := 9) [] ⟨cOp1_ok, cOp2_ok, cOp3_ok, cOp4_ok, cOp5_ok, cOp6_ok, trivial⟩ (by kernel_rfl) th_ok mix_ok Go.Proofs.Tryz.func155 (by kernel_rfl) ?_
  intro x hw hp Λ hC
  have h0 := h  hw  
  exact Eq.mpr (by kernel_rfl) h0
theorem cOperations_ok : ConOK Go.Proofs.Tryz.prog 155 cOperations := by
  refine cOperations_law ?_
  intro hw
  unfold cOperations_0
  exact ⟨rfl, trivial⟩
abbrev cWrites1 : Con := { A := (.cons tL .nil), R := (.cons .int (.cons .bool .nil)), pre := fun x => True, F := fun x => ((if writes x.1 then x.1.2.1 else 0), writes x.1, ()) }
def cWrites1_0  (l : Lin) (y0 : Int) (y1 : Bool) : Prop :=
  True ∧ (if (within l.1 (1 : Int) (6 : Int)) = true then (l.2.1 = y0 ∧ true = y1 ∧ True) else ((0 : Int) = y0 ∧ false = y1 ∧ True))
theorem cWrites1_law (h : ∀ (l : Lin), cWrites1.A.wf (l, ()) → cWrites1_0  l (if writes l then l.2.1 else 0) (writes l)) : ConOK Go.Proofs.Tryz.prog 156 cWrites1 := by
  refine lawL (Γ := [(99, cWithin1)]) (Θ := Th) (n := 9) [] ⟨cWithin1_ok, trivial⟩ (by kernel_rfl) th_ok mix_ok Go.Proofs.Tryz.func156 (by kernel_rfl) ?_
  intro x hw hp Λ hC
  have h0 := h x.1 hw  
  exact Eq.mpr (by kernel_rfl) h0
theorem cWrites1_ok : ConOK Go.Proofs.Tryz.prog 156 cWrites1 := by
  refine cWrites1_law ?_
  intro l hw
  unfold cWrites1_0
  refine ⟨trivial, ?_⟩
  by_cases h : 1 ≤ l.1 ∧ l.1 ≤ 6
  · have e : writes l = true := by unfold writes; simpa using h
    rw [if_pos (within_iff.2 h), if_pos e]
    exact ⟨rfl, e.symm, trivial⟩
  · have e : writes l = false := by unfold writes; simpa using h
    rw [if_neg (fun g => h (within_iff.1 g)), if_neg (by rw [e]; simp)]
    exact ⟨rfl, e.symm, trivial⟩
abbrev cRun0 : Con := { A := (.cons (.sl tL) (.cons (.sl .int) (.cons (.fn (.cons .int .nil) (.cons .int (.cons .bool .nil))) .nil))), R := (.cons (.osl tVis) (.cons (.arr 4 .int) .nil)), pre := fun x => validP x.1 = 0 ∧ validS x.2.1 = true ∧ ∀ i', x.2.2.1.1 (i', ()), F := fun x => (visits x.1 (frcOf x.2.2.1.2) x.2.1, endS x.1 (frcOf x.2.2.1.2) x.2.1, ()) }
def cRun0_0 (Λ1 : Int → (List Int) → (List Vis) → Prop) (Λ2 : Int → (List Int) → (List Vis) → Int → Prop) (p : (List Lin)) (in_ : (List Int)) (forced : (T.fn (.cons .int .nil) (.cons .int (.cons .bool .nil))).den) (y0 : (List Vis)) (y1 : (List Int)) : Prop :=
  True ∧ (True ∧ Λ1 (0 : Int) (List.append (List.take (List.length (List.replicate 4 0)) in_) (List.drop (List.length in_) (List.replicate 4 0))) ([] : List Vis))
def cRun0_1 (Λ1 : Int → (List Int) → (List Vis) → Prop) (Λ2 : Int → (List Int) → (List Vis) → Int → Prop) (p : (List Lin)) (in_ : (List Int)) (forced : (T.fn (.cons .int .nil) (.cons .int (.cons .bool .nil))).den) (y0 : (List Vis)) (y1 : (List Int))  (i_1 : Int) (now_1 : (List Int)) (out_1 : (List Vis)) : Prop :=
  if (decide (i_1 < (List.length p : Int))) = true then (idx i_1 (List.length p : Int) ∧ (List.length out_1 + List.length [(i_1, now_1, ())] ≤ 4294967296 ∧ (if ((List.getD p (Int.toNat i_1) tL.dflt).1 == (7 : Int)) = true then (idx ((List.getD p (Int.toNat i_1) tL.dflt).2.2.1) (4 : Int) ∧ (idx ((List.getD p (Int.toNat i_1) tL.dflt).2.2.2.1) (4 : Int) ∧ (if (decide ((List.getD now_1 (Int.toNat ((List.getD p (Int.toNat i_1) tL.dflt).2.2.1)) 0) < (List.getD now_1 (Int.toNat ((List.getD p (Int.toNat i_1) tL.dflt).2.2.2.1)) 0))) = true then (inI (i_1 + (List.getD p (Int.toNat i_1) tL.dflt).2.1) ∧ (inI ((i_1 + (List.getD p (Int.toNat i_1) tL.dflt).2.1) + (1 : Int)) ∧ Λ1 ((i_1 + (List.getD p (Int.toNat i_1) tL.dflt).2.1) + (1 : Int)) now_1 (out_1 ++ [(i_1, now_1, ())]))) else (inI (i_1 + (1 : Int)) ∧ Λ1 (i_1 + (1 : Int)) now_1 (out_1 ++ [(i_1, now_1, ())]))))) else (True ∧ (if (!(writes (List.getD p (Int.toNat i_1) tL.dflt))) = true then (inI (i_1 + (1 : Int)) ∧ Λ1 (i_1 + (1 : Int)) now_1 (out_1 ++ [(i_1, now_1, ())])) else (forced.1 (i_1, ()) ∧ (if (!((forced.2 (i_1, ())).2.1)) = true then (idx ((List.getD p (Int.toNat i_1) tL.dflt).1) (8 : Int) ∧ (if (decide ((List.getD allOps (Int.toNat ((List.getD p (Int.toNat i_1) tL.dflt).1)) tOpn.dflt).1 > (0 : Int))) = true then (idx ((List.getD p (Int.toNat i_1) tL.dflt).2.2.1) (4 : Int) ∧ Λ2 i_1 now_1 out_1 (List.getD now_1 (Int.toNat ((List.getD p (Int.toNat i_1) tL.dflt).2.2.1)) 0)) else Λ2 i_1 now_1 out_1 (0 : Int))) else (idx ((if writes (List.getD p (Int.toNat i_1) tL.dflt) then (List.getD p (Int.toNat i_1) tL.dflt).2.1 else 0)) (4 : Int) ∧ (inI (i_1 + (1 : Int)) ∧ Λ1 (i_1 + (1 : Int)) (List.set now_1 (Int.toNat ((if writes (List.getD p (Int.toNat i_1) tL.dflt) then (List.getD p (Int.toNat i_1) tL.dflt).2.1 else 0))) (max (-999 : Int) (min (999 : Int) ((forced.2 (i_1, ())).1)))) (out_1 ++ [(i_1, now_1, ())])))))))))) else (now_1 = y1 ∧ out_1 = y0)
def cRun0_2 (Λ1 : Int → (List Int) → (List Vis) → Prop) (Λ2 : Int → (List Int) → (List Vis) → Int → Prop) (p : (List Lin)) (in_ : (List Int)) (forced : (T.fn (.cons .int .nil) (.cons .int (.cons .bool .nil))).den) (y0 : (List Vis)) (y1 : (List Int)) (i_1 : Int) (now_1 : (List Int)) (out_1 : (List Vis)) (a_2 : Int) : Prop :=
  idx ((List.getD p (Int.toNat i_1) tL.dflt).1) (8 : Int) ∧ (if (decide ((List.getD allOps (Int.toNat ((List.getD p (Int.toNat i_1) tL.dflt).1)) tOpn.dflt).1 > (1 : Int))) = true then (idx ((List.getD p (Int.toNat i_1) tL.dflt).2.2.2.1) (4 : Int) ∧ (idx ((List.getD p (Int.toNat i_1) tL.dflt).1) (8 : Int) ∧ (((List.getD allOps (Int.toNat ((List.getD p (Int.toNat i_1) tL.dflt).1)) tOpn.dflt).2.1).1 (a_2, (List.getD now_1 (Int.toNat ((List.getD p (Int.toNat i_1) tL.dflt).2.2.2.1)) 0), (List.getD p (Int.toNat i_1) tL.dflt).2.2.1, ()) ∧ (idx ((if writes (List.getD p (Int.toNat i_1) tL.dflt) then (List.getD p (Int.toNat i_1) tL.dflt).2.1 else 0)) (4 : Int) ∧ (inI (i_1 + (1 : Int)) ∧ Λ1 (i_1 + (1 : Int)) (List.set now_1 (Int.toNat ((if writes (List.getD p (Int.toNat i_1) tL.dflt) then (List.getD p (Int.toNat i_1) tL.dflt).2.1 else 0))) (max (-999 : Int) (min (999 : Int) ((((List.getD allOps (Int.toNat ((List.getD p (Int.toNat i_1) tL.dflt).1)) tOpn.dflt).2.1).2 (a_2, (List.getD now_1 (Int.toNat ((List.getD p (Int.toNat i_1) tL.dflt).2.2.2.1)) 0), (List.getD p (Int.toNat i_1) tL.dflt).2.2.1, ())).1)))) (out_1 ++ [(i_1, now_1, ())])))))) else (idx ((List.getD p (Int.toNat i_1) tL.dflt).1) (8 : Int) ∧ (((List.getD allOps (Int.toNat ((List.getD p (Int.toNat i_1) tL.dflt).1)) tOpn.dflt).2.1).1 (a_2, 0, (List.getD p (Int.toNat i_1) tL.dflt).2.2.1, ()) ∧ (idx ((if writes (List.getD p (Int.toNat i_1) tL.dflt) then (List.getD p (Int.toNat i_1) tL.dflt).2.1 else 0)) (4 : Int) ∧ (inI (i_1 + (1 : Int)) ∧ Λ1 (i_1 + (1 : Int)) (List.set now_1 (Int.toNat ((if writes (List.getD p (Int.toNat i_1) tL.dflt) then (List.getD p (Int.toNat i_1) tL.dflt).2.1 else 0))) (max (-999 : Int) (min (999 : Int) ((((List.getD allOps (Int.toNat ((List.getD p (Int.toNat i_1) tL.dflt).1)) tOpn.dflt).2.1).2 (a_2, 0, (List.getD p (Int.toNat i_1) tL.dflt).2.2.1, ())).1)))) (out_1 ++ [(i_1, now_1, ())]))))))
theorem cRun0_law (h : ∀ (p : (List Lin)) (in_ : (List Int)) (forced : (T.fn (.cons .int .nil) (.cons .int (.cons .bool .nil))).den), cRun0.A.wf (p, in_, forced, ()) → (validP p = 0 ∧ validS in_ = true ∧ ∀ i', forced.1 (i', ())) → ∀ (Λ1 : Int → (List Int) → (List Vis) → Prop) (Λ2 : Int → (List Int) → (List Vis) → Int → Prop), (∀ (i_1 : Int) (now_1 : (List Int)) (out_1 : (List Vis)), cRun0_1 Λ1 Λ2 p in_ forced (visits p (frcOf forced.2) in_) (endS p (frcOf forced.2) in_) i_1 now_1 out_1 → Λ1 i_1 now_1 out_1) → (∀ (i_1 : Int) (now_1 : (List Int)) (out_1 : (List Vis)) (a_2 : Int), cRun0_2 Λ1 Λ2 p in_ forced (visits p (frcOf forced.2) in_) (endS p (frcOf forced.2) in_) i_1 now_1 out_1 a_2 → Λ2 i_1 now_1 out_1 a_2) → cRun0_0 Λ1 Λ2 p in_ forced (visits p (frcOf forced.2) in_) (endS p (frcOf forced.2) in_)) : ConOK Go.Proofs.Tryz.prog 147 cRun0 := by
  refine lawL (Γ := [(155, cOperations), (156, cWrites1)]) (Θ := Th) (n := 107) [([1, 1, 1, 1, 1, 0, 1, 0], ⟨[(0, false), (2, false), (7, true), (8, true), (9, true), (10, true), (11, true)], [(7, true), (8, true), (9, true), (10, true)]⟩), ([1, 1, 1, 1, 1, 0, 1, 0, 0, 1, 0, 0, 1, 1, 1, 1, 1, 1, 0, 1, 0, 1, 2], ⟨[(0, false), (2, false), (7, true), (8, true), (9, true), (10, true), (11, true), (12, true), (13, true), (17, true), (18, true)], [(7, true), (8, true), (9, true), (10, true), (12, true)]⟩)] ⟨cOperations_ok, cWrites1_ok, trivial⟩ (by kernel_rfl) th_ok mix_ok Go.Proofs.Tryz.func147 (by kernel_rfl) ?_
  intro x hw hp Λ hC
  have h0 := h x.1 x.2.1 x.2.2.1 hw hp (fun i_1 now_1 out_1 => Λ [1, 1, 1, 1, 1, 0, 1, 0] ([(0, .d false (.sl tL) x.1), (2, .d false (.fn (.cons .int .nil) (.cons .int (.cons .bool .nil))) x.2.2.1), (7, .ptr 7 0 []), (8, .ptr 8 0 []), (9, .ptr 9 0 []), (10, .own 10 0), (11, .d true .int i_1)], [(7, .box true (.arr 4 .int) (List.replicate 4 0)), (8, .box true (.arr 4 .int) now_1), (9, .box true (.arr 8 tOpn) allOps), (10, .sl true tVis out_1)])) (fun i_1 now_1 out_1 a_2 => Λ [1, 1, 1, 1, 1, 0, 1, 0, 0, 1, 0, 0, 1, 1, 1, 1, 1, 1, 0, 1, 0, 1, 2] ([(0, .d false (.sl tL) x.1), (2, .d false (.fn (.cons .int .nil) (.cons .int (.cons .bool .nil))) x.2.2.1), (7, .ptr 7 0 []), (8, .ptr 8 0 []), (9, .ptr 9 0 []), (10, .own 10 0), (11, .d true .int i_1), (12, .ptr 12 0 []), (13, .d true .int ((if writes (List.getD x.1 (Int.toNat i_1) tL.dflt) then (List.getD x.1 (Int.toNat i_1) tL.dflt).2.1 else 0))), (17, .d true .int a_2), (18, .d true .int 0)], [(7, .box true (.arr 4 .int) (List.replicate 4 0)), (8, .box true (.arr 4 .int) now_1), (9, .box true (.arr 8 tOpn) allOps), (10, .sl true tVis (out_1 ++ [(i_1, now_1, ())])), (12, .box true tL (List.getD x.1 (Int.toNat i_1) tL.dflt))])) (fun i_1 now_1 out_1 hb => hC [1, 1, 1, 1, 1, 0, 1, 0] ([(0, .d false (.sl tL) x.1), (2, .d false (.fn (.cons .int .nil) (.cons .int (.cons .bool .nil))) x.2.2.1), (7, .ptr 7 0 []), (8, .ptr 8 0 []), (9, .ptr 9 0 []), (10, .own 10 0), (11, .d true .int i_1)], [(7, .box true (.arr 4 .int) (List.replicate 4 0)), (8, .box true (.arr 4 .int) now_1), (9, .box true (.arr 8 tOpn) allOps), (10, .sl true tVis out_1)]) (Eq.mpr (by kernel_rfl) hb)) (fun i_1 now_1 out_1 a_2 hb => hC [1, 1, 1, 1, 1, 0, 1, 0, 0, 1, 0, 0, 1, 1, 1, 1, 1, 1, 0, 1, 0, 1, 2] ([(0, .d false (.sl tL) x.1), (2, .d false (.fn (.cons .int .nil) (.cons .int (.cons .bool .nil))) x.2.2.1), (7, .ptr 7 0 []), (8, .ptr 8 0 []), (9, .ptr 9 0 []), (10, .own 10 0), (11, .d true .int i_1), (12, .ptr 12 0 []), (13, .d true .int ((if writes (List.getD x.1 (Int.toNat i_1) tL.dflt) then (List.getD x.1 (Int.toNat i_1) tL.dflt).2.1 else 0))), (17, .d true .int a_2), (18, .d true .int 0)], [(7, .box true (.arr 4 .int) (List.replicate 4 0)), (8, .box true (.arr 4 .int) now_1), (9, .box true (.arr 8 tOpn) allOps), (10, .sl true tVis (out_1 ++ [(i_1, now_1, ())])), (12, .box true tL (List.getD x.1 (Int.toNat i_1) tL.dflt))]) (Eq.mpr (by kernel_rfl) hb))
  exact Eq.mpr (by kernel_rfl) h0
theorem cRun0_ok : ConOK Go.Proofs.Tryz.prog 147 cRun0 := by
  refine cRun0_law ?_
  intro p in_ forced hw hp Λ1 Λ2 h1 h2
  unfold cRun0_0
  obtain ⟨p1, p2, p3⟩ := hp
  obtain ⟨h8, hall⟩ := validP_ok p1
  have l4 := validS_len p2
  have key : ∀ (f i : Nat) (s : List Int) (out : List Vst), validS s = true → p.length < i + f → out.length ≤ i → visits p (frcOf forced.2) in_ = out ++ (runF p (frcOf forced.2) f i s).1 → endS p (frcOf forced.2) in_ = (runF p (frcOf forced.2) f i s).2 → Λ1 (i : Int) s out := by
    intro f
    induction f with
    | zero =>
      intro i s out hs hf ho e1 e2
      apply h1; unfold cRun0_1; rw [if_neg (by simp; omega)]
      exact ⟨e2.symm, by rw [e1]; simp [runF]⟩
    | succ f ih =>
      intro i s out hs hf ho e1 e2
      rw [runF] at e1 e2
      by_cases hi : i < p.length
      · rw [if_pos hi] at e1 e2
        have hl := validLine_at hall hi
        have hgt := stepTo_gt (List.getD p i tL.dflt) i s
        have nx := ih (stepTo (List.getD p i tL.dflt) i s) (stepS (frcOf forced.2) (List.getD p i tL.dflt) i s) (out ++ [((i : Int), s, ())]) (stepS_ok _ _ i hs) (by omega) (by rw [List.length_append]; simp only [List.length_cons, List.length_nil]; omega) (by rw [e1]; simp) e2
        have l4s := validS_len hs
        have J : ∀ a2, writes (List.getD p i tL.dflt) = true → (forced.2 ((i : Int), ())).2.1 = false → a2 = (if (List.getD p i tL.dflt).1 = 1 then 0 else Rg s (List.getD p i tL.dflt).2.2.1) → Λ2 i s out a2 := by
          intro a2 hw hfr ha
          have efr : frcOf forced.2 (i : Int) = none := by unfold frcOf; rw [if_neg (by rw [hfr]; simp)]
          apply h2; unfold cRun0_2; rw [Int.toNat_natCast]
          unfold stepS stepTo wnum at nx
          rw [efr] at nx
          generalize List.getD p i tL.dflt = l at *
          have hr := line_regs hl
          have hw2 : 1 ≤ l.1 ∧ l.1 ≤ 6 := by unfold writes at hw; simpa using hw
          rw [if_neg (by rintro ⟨h, _⟩; omega), if_pos hw] at nx
          have it := hr.2.2.1 hw2
          rw [if_pos hw]
          obtain ⟨op, t, x, y, ⟨⟩⟩ := l
          have I8 : idx op (8 : Int) := ⟨by dsimp only at hw2; omega, by dsimp only at hw2; omega⟩
          have I4 : idx t (4 : Int) := ⟨by dsimp only at it; omega, by dsimp only at it; omega⟩
          have hn : inI ((i : Int) + 1) := inI_succ hi (by omega)
          have c : op = 1 ∨ op = 2 ∨ op = 3 ∨ op = 4 ∨ op = 5 ∨ op = 6 := by dsimp only at hw2; omega
          rcases c with rfl | rfl | rfl | rfl | rfl | rfl
          · exact ⟨I8, I8, trivial, I4, hn, nx⟩
          · rw [if_neg (by simp)] at ha
            subst ha
            exact ⟨I8, I8, trivial, I4, hn, nx⟩
          all_goals
            rw [if_neg (by simp)] at ha
            subst ha
            have iy := hr.2.1 (by dsimp only; omega)
            dsimp only at iy
            have gx := validS_get hs x
            have gy := validS_get hs y
            have Iy : idx y (4 : Int) := ⟨iy.1, by omega⟩
            first
              | exact ⟨I8, Iy, I8, trivial, I4, hn, nx⟩
              | exact ⟨I8, Iy, I8, (by show inI (Rg s x + Rg s y); unfold inI; omega), I4, hn, nx⟩
              | exact ⟨I8, Iy, I8, (by show inI (Rg s x - Rg s y); unfold inI; omega), I4, hn, nx⟩
        apply h1; unfold cRun0_1; rw [if_pos (by simpa using hi), Int.toNat_natCast]
        have hr := line_regs hl
        have hn : inI ((i : Int) + 1) := inI_succ hi (by omega)
        refine ⟨idx_nat hi, by simp only [List.length_cons, List.length_nil]; omega, ?_⟩
        unfold stepS stepTo wnum at nx
        generalize List.getD p i tL.dflt = l at *
        by_cases h7 : l.1 = 7
        · rw [if_pos (by simpa using h7)]
          have ix := hr.1 (by omega)
          have iy := hr.2.1 (by omega)
          have it := hr.2.2.2.1 h7
          have hw : writes l = false := by unfold writes; simp only [decide_eq_false_iff_not]; omega
          rw [if_neg (show ¬ writes l = true by rw [hw]; simp)] at nx
          refine ⟨⟨ix.1, by omega⟩, ⟨iy.1, by omega⟩, ?_⟩
          by_cases hc : Rg s l.2.2.1 < Rg s l.2.2.2.1
          · rw [if_pos ⟨h7, hc⟩] at nx
            rw [if_pos (by unfold Rg at hc; simpa using hc)]
            refine ⟨by unfold inI; omega, by unfold inI; omega, ?_⟩
            rw [show ((i : Int) + l.2.1 + 1) = ((i + 1 + l.2.1.toNat : Nat) : Int) by omega]
            exact nx
          · rw [if_neg (by rintro ⟨_, h⟩; exact hc h)] at nx
            rw [if_neg (by unfold Rg at hc; simpa using hc)]
            exact ⟨hn, nx⟩
        · rw [if_neg (by simpa using h7)]
          rw [if_neg (by rintro ⟨h, _⟩; exact h7 h)] at nx
          refine ⟨trivial, ?_⟩
          cases hw : writes l
          · rw [hw] at nx
            rw [if_pos (by rfl)]
            exact ⟨hn, nx⟩
          · rw [if_neg (by simp)]
            have hw2 : 1 ≤ l.1 ∧ l.1 ≤ 6 := by unfold writes at hw; simpa using hw
            have it := hr.2.2.1 hw2
            refine ⟨p3 _, ?_⟩
            cases hfr : (forced.2 ((i : Int), ())).2.1
            · rw [if_pos (by rfl)]
              refine ⟨⟨by omega, by omega⟩, ?_⟩
              have J' := fun a2 => J a2 hw hfr
              obtain ⟨op, t, x, y, ⟨⟩⟩ := l
              have c : op = 1 ∨ op = 2 ∨ op = 3 ∨ op = 4 ∨ op = 5 ∨ op = 6 := by dsimp only at hw2; omega
              rcases c with rfl | rfl | rfl | rfl | rfl | rfl
              · exact J' 0 rfl
              all_goals
                have ix := hr.1 (by dsimp only; omega)
                dsimp only at ix
                exact ⟨⟨ix.1, by dsimp only; omega⟩, J' _ rfl⟩
            · rw [if_neg (by simp)]
              have efr : frcOf forced.2 (i : Int) = some (forced.2 ((i : Int), ())).1 := by unfold frcOf; rw [if_pos hfr]
              rw [efr, if_pos hw] at nx
              simp only [eq_self, if_true]
              exact ⟨⟨it.1, by omega⟩, hn, nx⟩
      · rw [if_neg hi] at e1 e2
        apply h1; unfold cRun0_1; rw [if_neg (by simpa using hi)]
        exact ⟨e2.symm, by rw [e1]; simp⟩
  refine ⟨trivial, trivial, ?_⟩
  show Λ1 0 (List.take 4 in_ ++ List.drop in_.length (List.replicate 4 0)) []
  rw [List.take_of_length_le (by omega), List.drop_of_length_le (by rw [List.length_replicate]; omega), List.append_nil]
  exact key (p.length + 1) 0 in_ [] p2 (by omega) (Nat.zero_le _) rfl rfl
abbrev cFree : Con := { A := (.cons .int .nil), R := (.cons .int (.cons .bool .nil)), pre := fun x => True, F := fun x => (0, false, ()) }
def cFree_0  (a0 : Int) (y0 : Int) (y1 : Bool) : Prop :=
  (0 : Int) = y0 ∧ false = y1 ∧ True
theorem cFree_law (h : ∀ (a0 : Int), cFree.A.wf (a0, ()) → cFree_0  a0 0 false) : ConOK Go.Proofs.Tryz.prog 148 cFree := by
  refine lawL (Γ := []) (Θ := Th) (n := 4) [] trivial (by kernel_rfl) th_ok mix_ok Go.Proofs.Tryz.func148 (by kernel_rfl) ?_
  intro x hw hp Λ hC
  have h0 := h x.1 hw  
  exact Eq.mpr (by kernel_rfl) h0
theorem cFree_ok : ConOK Go.Proofs.Tryz.prog 148 cFree := by
  refine cFree_law ?_
  intro a0 hw
  unfold cFree_0
  exact ⟨rfl, rfl, trivial⟩
theorem frc_free : frcOf (fun (x : (Int × Unit)) => (0, false, ())) = noFrc := rfl

abbrev cRun : Con := { A := (.cons (.sl tL) (.cons (.sl .int) .nil)), R := (.cons (.osl .int) (.cons .int .nil)), pre := fun x => True, F := fun x => ((if err1 x.1 x.2.1 = 0 then runS x.1 x.2.1 else []), err1 x.1 x.2.1, ()) }
def cRun_0  (p : (List Lin)) (in_ : (List Int)) (y0 : (List Int)) (y1 : Int) : Prop :=
  True ∧ (if (((if validP p = 0 then argErr (validS in_) else validP p)) != (0 : Int)) = true then (((if validP p = 0 then argErr (validS in_) else validP p)) = y1 ∧ ([] : List Int) = y0) else ((validP p = 0 ∧ validS in_ = true ∧ ∀ i', (fun (xx : (Int × Unit)) => True, fun (xx : (Int × Unit)) => (0, false, ())).1 (i', ())) ∧ (True ∧ ((0 : Int) = y1 ∧ (endS p (frcOf (fun (xx : (Int × Unit)) => True, fun (xx : (Int × Unit)) => (0, false, ())).2) in_) = y0))))
theorem cRun_law (h : ∀ (p : (List Lin)) (in_ : (List Int)), cRun.A.wf (p, in_, ()) → cRun_0  p in_ (if err1 p in_ = 0 then runS p in_ else []) (err1 p in_)) : ConOK Go.Proofs.Tryz.prog 134 cRun := by
  refine lawL (Γ := [(146, cCheck1), (148, cFree), (147, cRun0)]) (Θ := Th) (n := 22) [] ⟨cCheck1_ok, cFree_ok, cRun0_ok, trivial⟩ (by kernel_rfl) th_ok mix_ok Go.Proofs.Tryz.func134 (by kernel_rfl) ?_
  intro x hw hp Λ hC
  have h0 := h x.1 x.2.1 hw  
  exact Eq.mpr (by kernel_rfl) h0
theorem cRun_ok : ConOK Go.Proofs.Tryz.prog 134 cRun := by
  refine cRun_law ?_
  intro p in_ hw
  unfold cRun_0
  refine ⟨trivial, ?_⟩
  show if (err1 p in_ != 0) = true then _ else _
  by_cases h : err1 p in_ = 0
  · rw [if_neg (by simp [h]), if_pos h, h]
    have := err1_ok h
    exact ⟨⟨this.1, this.2, fun _ => trivial⟩, trivial, rfl, rfl⟩
  · rw [if_pos (by simpa using h), if_neg h]
    exact ⟨rfl, rfl⟩
end Go.Tk
set_option linter.unusedSimpArgs false
set_option linter.unusedVariables false
namespace Go.Tk
open Go Go.RowKit

abbrev cWritesR : Con := { A := (.cons tL .nil), R := (.cons .bool .nil), pre := fun x => True, F := fun x => (!(x.1.1 == 0) && !(x.1.1 == 7), ()) }
def cWritesR_0  (l : Lin) (y0 : Bool) : Prop :=
  if (l.1 != (0 : Int)) = true then (True ∧ ((bif true then (l.1 != (7 : Int)) else false) = y0 ∧ True)) else (false = false ∧ (false = y0 ∧ True))
theorem cWritesR_law (h : ∀ (l : Lin), cWritesR.A.wf (l, ()) → cWritesR_0  l (!(l.1 == 0) && !(l.1 == 7))) : ConOK Go.Proofs.Tryz.prog 183 cWritesR := by
  refine lawL (Γ := []) (Θ := Th) (n := 11) [] trivial (by kernel_rfl) th_ok mix_ok Go.Proofs.Tryz.func183 (by kernel_rfl) ?_
  intro x hw hp Λ hC
  have h0 := h x.1 hw  
  exact Eq.mpr (by kernel_rfl) h0
theorem cWritesR_ok : ConOK Go.Proofs.Tryz.prog 183 cWritesR := by
  refine cWritesR_law ?_
  intro l hw
  unfold cWritesR_0
  by_cases h : l.1 = 0 <;> by_cases h7 : l.1 = 7 <;> simp [h, h7, bne]
theorem writes_eq {l : Lin} (h : validLine l = true) : (!(l.1 == 0) && !(l.1 == 7)) = writes l := by
  have hr := line_regs h
  unfold writes
  rw [Bool.eq_iff_iff]
  simp only [Bool.and_eq_true, Bool.not_eq_true', beq_eq_false_iff_ne, decide_eq_true_eq]
  omega

abbrev cCutR : Con := { A := (.cons .int .nil), R := (.cons .int .nil), pre := fun x => True, F := fun x => (cut x.1, ()) }
def cCutR_0  (n : Int) (y0 : Int) : Prop :=
  if (decide (n < (-999 : Int))) = true then ((-999 : Int) = y0 ∧ True) else (if (decide (n > (999 : Int))) = true then ((999 : Int) = y0 ∧ True) else (n = y0 ∧ True))
theorem cCutR_law (h : ∀ (n : Int), cCutR.A.wf (n, ()) → cCutR_0  n (cut n)) : ConOK Go.Proofs.Tryz.prog 186 cCutR := by
  refine lawL (Γ := []) (Θ := Th) (n := 8) [] trivial (by kernel_rfl) th_ok mix_ok Go.Proofs.Tryz.func186 (by kernel_rfl) ?_
  intro x hw hp Λ hC
  have h0 := h x.1 hw  
  exact Eq.mpr (by kernel_rfl) h0
theorem cCutR_ok : ConOK Go.Proofs.Tryz.prog 186 cCutR := by
  refine cCutR_law ?_
  intro n hw
  unfold cCutR_0
  unfold cut
  simp only [decide_eq_true_eq]
  split
  · exact ⟨by omega, trivial⟩
  · split
    · exact ⟨by omega, trivial⟩
    · exact ⟨by omega, trivial⟩
abbrev cValueR : Con := { A := (.cons tL (.cons (.sl .int) .nil)), R := (.cons .int .nil), pre := fun x => validLine x.1 = true ∧ writes x.1 = true ∧ validS x.2.1 = true, F := fun x => (cut (wval x.1 x.2.1), ()) }
def cValueR_0  (l : Lin) (s : (List Int)) (y0 : Int) : Prop :=
  if (l.1 == (1 : Int)) = true then (l.2.2.1 = y0 ∧ True) else (idx l.2.2.1 (List.length s : Int) ∧ (idx l.2.2.2.1 (List.length s : Int) ∧ (if (l.1 == (3 : Int)) = true then (inI ((List.getD s (Int.toNat l.2.2.1) 0) + (List.getD s (Int.toNat l.2.2.2.1) 0)) ∧ (True ∧ ((cut ((List.getD s (Int.toNat l.2.2.1) 0) + (List.getD s (Int.toNat l.2.2.2.1) 0))) = y0 ∧ True))) else (if (l.1 == (4 : Int)) = true then (inI ((List.getD s (Int.toNat l.2.2.1) 0) - (List.getD s (Int.toNat l.2.2.2.1) 0)) ∧ (True ∧ ((cut ((List.getD s (Int.toNat l.2.2.1) 0) - (List.getD s (Int.toNat l.2.2.2.1) 0))) = y0 ∧ True))) else (if (l.1 == (5 : Int)) = true then (if (decide ((List.getD s (Int.toNat l.2.2.2.1) 0) < (List.getD s (Int.toNat l.2.2.1) 0))) = true then (True ∧ ((cut (List.getD s (Int.toNat l.2.2.2.1) 0)) = y0 ∧ True)) else (True ∧ ((cut (List.getD s (Int.toNat l.2.2.1) 0)) = y0 ∧ True))) else (if (l.1 == (6 : Int)) = true then (if (decide ((List.getD s (Int.toNat l.2.2.2.1) 0) > (List.getD s (Int.toNat l.2.2.1) 0))) = true then (True ∧ ((cut (List.getD s (Int.toNat l.2.2.2.1) 0)) = y0 ∧ True)) else (True ∧ ((cut (List.getD s (Int.toNat l.2.2.1) 0)) = y0 ∧ True))) else (True ∧ ((cut (List.getD s (Int.toNat l.2.2.1) 0)) = y0 ∧ True))))))))
theorem cValueR_law (h : ∀ (l : Lin) (s : (List Int)), cValueR.A.wf (l, s, ()) → (validLine l = true ∧ writes l = true ∧ validS s = true) → cValueR_0  l s (cut (wval l s))) : ConOK Go.Proofs.Tryz.prog 184 cValueR := by
  refine lawL (Γ := [(186, cCutR)]) (Θ := Th) (n := 48) [] ⟨cCutR_ok, trivial⟩ (by kernel_rfl) th_ok mix_ok Go.Proofs.Tryz.func184 (by kernel_rfl) ?_
  intro x hw hp Λ hC
  have h0 := h x.1 x.2.1 hw hp  
  exact Eq.mpr (by kernel_rfl) h0
theorem cValueR_ok : ConOK Go.Proofs.Tryz.prog 184 cValueR := by
  refine cValueR_law ?_
  intro l s hw hp
  unfold cValueR_0
  obtain ⟨p1, p2, p3⟩ := hp
  have hr := line_regs p1
  have l4 := validS_len p3
  have hw2 : 1 ≤ l.1 ∧ l.1 ≤ 6 := by unfold writes at p2; simpa using p2
  have gx := validS_get p3 l.2.2.1
  have gy := validS_get p3 l.2.2.2.1
  unfold wval
  by_cases e1 : l.1 = 1
  · rw [if_pos (by simpa using e1), if_pos e1]
    have := hr.2.2.2.2.1 e1
    exact ⟨by unfold cut; omega, trivial⟩
  rw [if_neg (by simpa using e1), if_neg e1]
  have ix := hr.1 (by omega)
  have iy : 0 ≤ l.2.2.2.1 ∧ l.2.2.2.1 ≤ 3 := by
    by_cases e2 : l.1 = 2
    · obtain ⟨op, t, x, y, ⟨⟩⟩ := l
      dsimp only at e2
      subst e2
      unfold validLine at p1
      simp at p1
      dsimp only
      omega
    · exact hr.2.1 (by omega)
  refine ⟨⟨ix.1, by omega⟩, ⟨iy.1, by omega⟩, ?_⟩
  unfold Rg at gx gy ⊢
  by_cases e3 : l.1 = 3
  · rw [if_pos (by simpa using e3), if_neg (by omega), if_pos e3]
    exact ⟨by unfold inI; omega, trivial, rfl, trivial⟩
  rw [if_neg (by simpa using e3)]
  by_cases e4 : l.1 = 4
  · rw [if_pos (by simpa using e4), if_neg (by omega), if_neg (by omega), if_pos e4]
    exact ⟨by unfold inI; omega, trivial, rfl, trivial⟩
  rw [if_neg (by simpa using e4)]
  by_cases e5 : l.1 = 5
  · rw [if_pos (by simpa using e5), if_neg (show ¬ l.1 = 2 by omega), if_neg (show ¬ l.1 = 3 by omega), if_neg (show ¬ l.1 = 4 by omega), if_pos e5]
    simp only [decide_eq_true_eq]
    split
    · exact ⟨trivial, by congr 1; omega, trivial⟩
    · exact ⟨trivial, by congr 1; omega, trivial⟩
  rw [if_neg (by simpa using e5)]
  by_cases e6 : l.1 = 6
  · rw [if_pos (by simpa using e6), if_neg (show ¬ l.1 = 2 by omega), if_neg (show ¬ l.1 = 3 by omega), if_neg (show ¬ l.1 = 4 by omega), if_neg (show ¬ l.1 = 5 by omega)]
    simp only [decide_eq_true_eq]
    split
    · exact ⟨trivial, by congr 1; omega, trivial⟩
    · exact ⟨trivial, by congr 1; omega, trivial⟩
  rw [if_neg (by simpa using e6), if_pos (by omega)]
  exact ⟨trivial, rfl, trivial⟩
abbrev cTraceR : Con := { A := (.cons (.sl tL) (.cons (.sl .int) (.cons (.sl .int) (.cons (.sl .int) .nil)))), R := (.cons (.osl tStp) (.cons (.sl .int) .nil)), pre := fun x => validP x.1 = 0 ∧ validS x.2.1 = true ∧ x.2.2.1 = [], F := fun x => (visits x.1 noFrc x.2.1, runS x.1 x.2.1, ()) }
def cTraceR_0 (Λ1 : Int → (List Step1) → (List Int) → Prop) (Λ2 : Int → (List Int) → (List Step1) → Int → Prop) (Λ3 : Int → Int → (List Int) → (List Step1) → Int → Int → Prop) (p : (List Lin)) (in_ : (List Int)) (lines : (List Int)) (values : (List Int)) (y0 : (List Step1)) (y1 : (List Int)) : Prop :=
  List.length ([] : List Int) + List.length in_ ≤ 4294967296 ∧ Λ1 (0 : Int) ([] : List Step1) (([] : List Int) ++ in_)
def cTraceR_1 (Λ1 : Int → (List Step1) → (List Int) → Prop) (Λ2 : Int → (List Int) → (List Step1) → Int → Prop) (Λ3 : Int → Int → (List Int) → (List Step1) → Int → Int → Prop) (p : (List Lin)) (in_ : (List Int)) (lines : (List Int)) (values : (List Int)) (y0 : (List Step1)) (y1 : (List Int))  (i_1 : Int) (out_1 : (List Step1)) (now_1 : (List Int)) : Prop :=
  if (decide (i_1 < (List.length p : Int))) = true then (List.length ([] : List Int) + List.length now_1 ≤ 4294967296 ∧ (List.length out_1 + List.length ([(i_1, (([] : List Int) ++ now_1), ())]) ≤ 4294967296 ∧ (idx i_1 (List.length p : Int) ∧ (inI (i_1 + (1 : Int)) ∧ (if ((List.getD p (Int.toNat i_1) tL.dflt).1 == (7 : Int)) = true then (idx ((List.getD p (Int.toNat i_1) tL.dflt).2.2.1) (List.length now_1 : Int) ∧ (idx ((List.getD p (Int.toNat i_1) tL.dflt).2.2.2.1) (List.length now_1 : Int) ∧ (True ∧ (if (bif true then (decide ((List.getD now_1 (Int.toNat ((List.getD p (Int.toNat i_1) tL.dflt).2.2.1)) 0) < (List.getD now_1 (Int.toNat ((List.getD p (Int.toNat i_1) tL.dflt).2.2.2.1)) 0))) else false) = true then (inI ((i_1 + (1 : Int)) + (List.getD p (Int.toNat i_1) tL.dflt).2.1) ∧ Λ2 i_1 now_1 out_1 ((i_1 + (1 : Int)) + (List.getD p (Int.toNat i_1) tL.dflt).2.1)) else Λ2 i_1 now_1 out_1 (i_1 + (1 : Int)))))) else (false = false ∧ Λ2 i_1 now_1 out_1 (i_1 + (1 : Int)))))))) else (now_1 = y1 ∧ out_1 = y0)
def cTraceR_2 (Λ1 : Int → (List Step1) → (List Int) → Prop) (Λ2 : Int → (List Int) → (List Step1) → Int → Prop) (Λ3 : Int → Int → (List Int) → (List Step1) → Int → Int → Prop) (p : (List Lin)) (in_ : (List Int)) (lines : (List Int)) (values : (List Int)) (y0 : (List Step1)) (y1 : (List Int)) (i_1 : Int) (now_1 : (List Int)) (out_1 : (List Step1)) (i_2 : Int) : Prop :=
  True ∧ (if (!(!((List.getD p (Int.toNat i_1) tL.dflt).1 == 0) && !((List.getD p (Int.toNat i_1) tL.dflt).1 == 7))) = true then Λ1 i_2 (out_1 ++ [(i_1, (([] : List Int) ++ now_1), ())]) now_1 else ((validLine (List.getD p (Int.toNat i_1) tL.dflt) = true ∧ writes (List.getD p (Int.toNat i_1) tL.dflt) = true ∧ validS now_1 = true) ∧ Λ3 i_1 i_2 now_1 out_1 (cut (wval (List.getD p (Int.toNat i_1) tL.dflt) now_1)) (0 : Int)))
def cTraceR_3 (Λ1 : Int → (List Step1) → (List Int) → Prop) (Λ2 : Int → (List Int) → (List Step1) → Int → Prop) (Λ3 : Int → Int → (List Int) → (List Step1) → Int → Int → Prop) (p : (List Lin)) (in_ : (List Int)) (lines : (List Int)) (values : (List Int)) (y0 : (List Step1)) (y1 : (List Int)) (i_1 : Int) (i_2 : Int) (now_1 : (List Int)) (out_1 : (List Step1)) (n_3 : Int) (k_3 : Int) : Prop :=
  if (decide (k_3 < (List.length lines : Int))) = true then (idx k_3 (List.length lines : Int) ∧ (inI (i_2 - (1 : Int)) ∧ (if ((List.getD lines (Int.toNat k_3) 0) == (i_2 - (1 : Int))) = true then (idx k_3 (List.length values : Int) ∧ (inI (k_3 + (1 : Int)) ∧ Λ3 i_1 i_2 now_1 out_1 (List.getD values (Int.toNat k_3) 0) (k_3 + (1 : Int)))) else (inI (k_3 + (1 : Int)) ∧ Λ3 i_1 i_2 now_1 out_1 n_3 (k_3 + (1 : Int)))))) else (idx ((List.getD p (Int.toNat i_1) tL.dflt).2.1) (List.length now_1 : Int) ∧ Λ1 i_2 (out_1 ++ [(i_1, (([] : List Int) ++ now_1), ())]) (List.set now_1 (Int.toNat ((List.getD p (Int.toNat i_1) tL.dflt).2.1)) n_3))
theorem cTraceR_law (h : ∀ (p : (List Lin)) (in_ : (List Int)) (lines : (List Int)) (values : (List Int)), cTraceR.A.wf (p, in_, lines, values, ()) → (validP p = 0 ∧ validS in_ = true ∧ lines = []) → ∀ (Λ1 : Int → (List Step1) → (List Int) → Prop) (Λ2 : Int → (List Int) → (List Step1) → Int → Prop) (Λ3 : Int → Int → (List Int) → (List Step1) → Int → Int → Prop), (∀ (i_1 : Int) (out_1 : (List Step1)) (now_1 : (List Int)), cTraceR_1 Λ1 Λ2 Λ3 p in_ lines values (visits p noFrc in_) (runS p in_) i_1 out_1 now_1 → Λ1 i_1 out_1 now_1) → (∀ (i_1 : Int) (now_1 : (List Int)) (out_1 : (List Step1)) (i_2 : Int), cTraceR_2 Λ1 Λ2 Λ3 p in_ lines values (visits p noFrc in_) (runS p in_) i_1 now_1 out_1 i_2 → Λ2 i_1 now_1 out_1 i_2) → (∀ (i_1 : Int) (i_2 : Int) (now_1 : (List Int)) (out_1 : (List Step1)) (n_3 : Int) (k_3 : Int), cTraceR_3 Λ1 Λ2 Λ3 p in_ lines values (visits p noFrc in_) (runS p in_) i_1 i_2 now_1 out_1 n_3 k_3 → Λ3 i_1 i_2 now_1 out_1 n_3 k_3) → cTraceR_0 Λ1 Λ2 Λ3 p in_ lines values (visits p noFrc in_) (runS p in_)) : ConOK Go.Proofs.Tryz.prog 171 cTraceR := by
  refine lawL (Γ := [(184, cValueR), (183, cWritesR)]) (Θ := Th) (n := 87) [([1, 1, 1, 0, 1, 0], ⟨[(0, false), (2, false), (3, false), (10, true), (11, true), (12, true)], [(10, true), (16, true)]⟩), ([1, 1, 1, 0, 1, 0, 0, 1, 0, 1, 1, 1, 2], ⟨[(0, false), (2, false), (3, false), (10, true), (11, true), (12, true), (13, true)], [(10, true), (13, true), (16, true)]⟩), ([1, 1, 1, 0, 1, 0, 0, 1, 0, 1, 1, 1, 1, 1, 1, 0, 1, 0], ⟨[(0, false), (2, false), (3, false), (10, true), (11, true), (12, true), (13, true), (14, false), (15, true)], [(10, true), (13, true), (16, true)]⟩)] ⟨cValueR_ok, cWritesR_ok, trivial⟩ (by kernel_rfl) th_ok mix_ok Go.Proofs.Tryz.func171 (by kernel_rfl) ?_
  intro x hw hp Λ hC
  have h0 := h x.1 x.2.1 x.2.2.1 x.2.2.2.1 hw hp (fun i_1 out_1 now_1 => Λ [1, 1, 1, 0, 1, 0] ([(0, .d false (.sl tL) x.1), (2, .d false (.sl .int) x.2.2.1), (3, .d false (.sl .int) x.2.2.2.1), (10, .own 10 0), (11, .own 16 0), (12, .d true .int i_1)], [(10, .sl true tStp out_1), (16, .sl true .int now_1)])) (fun i_1 now_1 out_1 i_2 => Λ [1, 1, 1, 0, 1, 0, 0, 1, 0, 1, 1, 1, 2] ([(0, .d false (.sl tL) x.1), (2, .d false (.sl .int) x.2.2.1), (3, .d false (.sl .int) x.2.2.2.1), (10, .own 10 0), (11, .own 16 0), (12, .d true .int i_2), (13, .ptr 13 0 [])], [(10, .sl true tStp (out_1 ++ [(i_1, (([] : List Int) ++ now_1), ())])), (13, .box true tL (List.getD x.1 (Int.toNat i_1) tL.dflt)), (16, .sl true .int now_1)])) (fun i_1 i_2 now_1 out_1 n_3 k_3 => Λ [1, 1, 1, 0, 1, 0, 0, 1, 0, 1, 1, 1, 1, 1, 1, 0, 1, 0] ([(0, .d false (.sl tL) x.1), (2, .d false (.sl .int) x.2.2.1), (3, .d false (.sl .int) x.2.2.2.1), (10, .own 10 0), (11, .own 16 0), (12, .d true .int i_2), (13, .ptr 13 0 []), (14, .d false .int n_3), (15, .d true .int k_3)], [(10, .sl true tStp (out_1 ++ [(i_1, (([] : List Int) ++ now_1), ())])), (13, .box true tL (List.getD x.1 (Int.toNat i_1) tL.dflt)), (16, .sl true .int now_1)])) (fun i_1 out_1 now_1 hb => hC [1, 1, 1, 0, 1, 0] ([(0, .d false (.sl tL) x.1), (2, .d false (.sl .int) x.2.2.1), (3, .d false (.sl .int) x.2.2.2.1), (10, .own 10 0), (11, .own 16 0), (12, .d true .int i_1)], [(10, .sl true tStp out_1), (16, .sl true .int now_1)]) (Eq.mpr (by kernel_rfl) hb)) (fun i_1 now_1 out_1 i_2 hb => hC [1, 1, 1, 0, 1, 0, 0, 1, 0, 1, 1, 1, 2] ([(0, .d false (.sl tL) x.1), (2, .d false (.sl .int) x.2.2.1), (3, .d false (.sl .int) x.2.2.2.1), (10, .own 10 0), (11, .own 16 0), (12, .d true .int i_2), (13, .ptr 13 0 [])], [(10, .sl true tStp (out_1 ++ [(i_1, (([] : List Int) ++ now_1), ())])), (13, .box true tL (List.getD x.1 (Int.toNat i_1) tL.dflt)), (16, .sl true .int now_1)]) (Eq.mpr (by kernel_rfl) hb)) (fun i_1 i_2 now_1 out_1 n_3 k_3 hb => hC [1, 1, 1, 0, 1, 0, 0, 1, 0, 1, 1, 1, 1, 1, 1, 0, 1, 0] ([(0, .d false (.sl tL) x.1), (2, .d false (.sl .int) x.2.2.1), (3, .d false (.sl .int) x.2.2.2.1), (10, .own 10 0), (11, .own 16 0), (12, .d true .int i_2), (13, .ptr 13 0 []), (14, .d false .int n_3), (15, .d true .int k_3)], [(10, .sl true tStp (out_1 ++ [(i_1, (([] : List Int) ++ now_1), ())])), (13, .box true tL (List.getD x.1 (Int.toNat i_1) tL.dflt)), (16, .sl true .int now_1)]) (Eq.mpr (by kernel_rfl) hb))
  exact Eq.mpr (by kernel_rfl) h0
theorem cTraceR_ok : ConOK Go.Proofs.Tryz.prog 171 cTraceR := by
  refine cTraceR_law ?_
  intro p in_ lines values hw hp Λ1 Λ2 Λ3 h1 h2 h3
  unfold cTraceR_0
  obtain ⟨p1, p2, p3⟩ := hp
  obtain ⟨h8, hall⟩ := validP_ok p1
  have l4 := validS_len p2
  have key : ∀ (f i : Nat) (s : List Int) (out : List Vst), validS s = true → p.length < i + f → out.length ≤ i → visits p noFrc in_ = out ++ (runF p noFrc f i s).1 → runS p in_ = (runF p noFrc f i s).2 → Λ1 (i : Int) out s := by
    intro f
    induction f with
    | zero =>
      intro i s out hs hf ho e1 e2
      apply h1; unfold cTraceR_1; rw [if_neg (by simp; omega)]
      exact ⟨e2.symm, by rw [e1]; simp [runF]⟩
    | succ f ih =>
      intro i s out hs hf ho e1 e2
      rw [runF] at e1 e2
      by_cases hi : i < p.length
      · rw [if_pos hi] at e1 e2
        have hl := validLine_at hall hi
        have hgt := stepTo_gt (List.getD p i tL.dflt) i s
        have nx := ih (stepTo (List.getD p i tL.dflt) i s) (stepS noFrc (List.getD p i tL.dflt) i s) (out ++ [((i : Int), s, ())]) (stepS_ok _ _ i hs) (by omega) (by rw [List.length_append]; simp only [List.length_cons, List.length_nil]; omega) (by rw [e1]; simp) e2
        have l4s := validS_len hs
        have J : ∀ j : Nat, j = stepTo (List.getD p i tL.dflt) i s → Λ2 (i : Int) s out (j : Int) := by
          intro j hj
          apply h2; unfold cTraceR_2; rw [Int.toNat_natCast, writes_eq hl]
          refine ⟨trivial, ?_⟩
          rw [List.nil_append]
          cases hw : writes (List.getD p i tL.dflt)
          · rw [if_pos (by rfl)]
            unfold stepS at nx
            rw [if_neg (by rw [hw]; simp), ← hj] at nx
            exact nx
          · rw [if_neg (by simp)]
            refine ⟨⟨hl, rfl, hs⟩, ?_⟩
            apply h3; unfold cTraceR_3
            rw [p3, if_neg (by simp), Int.toNat_natCast, List.nil_append]
            have hr := line_regs hl
            have it := hr.2.2.1 (by unfold writes at hw; simpa using hw)
            unfold stepS wnum noFrc at nx
            rw [if_pos hw, ← hj] at nx
            exact ⟨⟨it.1, by omega⟩, nx⟩
        apply h1; unfold cTraceR_1; rw [if_pos (by simpa using hi), Int.toNat_natCast]
        have hr := line_regs hl
        have hn : inI ((i : Int) + 1) := inI_succ hi (by omega)
        refine ⟨by simp only [List.length_nil]; omega, by simp only [List.length_cons, List.length_nil]; omega, idx_nat hi, hn, ?_⟩
        unfold stepTo at J
        by_cases h7 : (List.getD p i tL.dflt).1 = 7
        · rw [if_pos (by simpa using h7)]
          have ix := hr.1 (by omega)
          have iy := hr.2.1 (by omega)
          have it := hr.2.2.2.1 h7
          refine ⟨⟨ix.1, by omega⟩, ⟨iy.1, by omega⟩, trivial, ?_⟩
          by_cases hc : Rg s (List.getD p i tL.dflt).2.2.1 < Rg s (List.getD p i tL.dflt).2.2.2.1
          · rw [if_pos (by show decide _ = true; exact decide_eq_true hc)]
            refine ⟨by unfold inI; omega, ?_⟩
            have := J (i + 1 + (List.getD p i tL.dflt).2.1.toNat) (by rw [if_pos ⟨h7, hc⟩])
            rw [show ((i : Int) + 1 + (List.getD p i tL.dflt).2.1) = ((i + 1 + (List.getD p i tL.dflt).2.1.toNat : Nat) : Int) by omega]
            exact this
          · rw [if_neg (by show ¬ decide _ = true; rw [decide_eq_true_eq]; exact hc)]
            exact J (i + 1) (by rw [if_neg (by rintro ⟨_, h⟩; exact hc h)])
        · rw [if_neg (by simpa using h7)]
          exact ⟨rfl, J (i + 1) (by rw [if_neg (by rintro ⟨h, _⟩; exact h7 h)])⟩
      · rw [if_neg hi] at e1 e2
        apply h1; unfold cTraceR_1; rw [if_neg (by simpa using hi)]
        exact ⟨e2.symm, by rw [e1]; simp⟩
  refine ⟨by simp only [List.length_nil]; omega, ?_⟩
  rw [List.nil_append]
  exact key (p.length + 1) 0 in_ [] p2 (by omega) (Nat.zero_le _) rfl rfl
abbrev cRunR : Con := { A := (.cons (.sl tL) (.cons (.sl .int) .nil)), R := (.cons (.sl .int) (.cons .int .nil)), pre := fun x => True, F := fun x => ((if err1 x.1 x.2.1 = 0 then runS x.1 x.2.1 else []), err1 x.1 x.2.1, ()) }
def cRunR_0  (p : (List Lin)) (in_ : (List Int)) (y0 : (List Int)) (y1 : Int) : Prop :=
  True ∧ (if (((if validP p = 0 then argErr (validS in_) else validP p)) != (0 : Int)) = true then (([] : List Int) = y0 ∧ ((if validP p = 0 then argErr (validS in_) else validP p)) = y1 ∧ True) else ((validP p = 0 ∧ validS in_ = true ∧ ([] : List Int) = []) ∧ ((runS p in_) = y0 ∧ (0 : Int) = y1 ∧ True)))
theorem cRunR_law (h : ∀ (p : (List Lin)) (in_ : (List Int)), cRunR.A.wf (p, in_, ()) → cRunR_0  p in_ (if err1 p in_ = 0 then runS p in_ else []) (err1 p in_)) : ConOK Go.Proofs.Tryz.prog 154 cRunR := by
  refine lawL (Γ := [(170, cAskedR), (171, cTraceR)]) (Θ := Th) (n := 22) [] ⟨cAskedR_ok, cTraceR_ok, trivial⟩ (by kernel_rfl) th_ok mix_ok Go.Proofs.Tryz.func154 (by kernel_rfl) ?_
  intro x hw hp Λ hC
  have h0 := h x.1 x.2.1 hw  
  exact Eq.mpr (by kernel_rfl) h0
theorem cRunR_ok : ConOK Go.Proofs.Tryz.prog 154 cRunR := by
  refine cRunR_law ?_
  intro p in_ hw
  unfold cRunR_0
  refine ⟨trivial, ?_⟩
  show if (err1 p in_ != 0) = true then _ else _
  by_cases h : err1 p in_ = 0
  · rw [if_neg (by simp [h]), if_pos h, h]
    have := err1_ok h
    exact ⟨⟨this.1, this.2, rfl⟩, rfl, rfl, trivial⟩
  · rw [if_pos (by simpa using h), if_neg h]
    exact ⟨rfl, rfl, trivial⟩
end Go.Tk
/- Plain facts: tests and contracts (layer 2). No program in sight. -/
set_option linter.unusedSimpArgs false
set_option linter.unusedVariables false
namespace Go.Tk
open Go Go.RowKit

end Go.Tk
set_option linter.unusedSimpArgs false
set_option linter.unusedVariables false
namespace Go.Tk
open Go Go.RowKit

abbrev cWithin2 : Con := { A := (.cons .int (.cons .int (.cons .int .nil))), R := (.cons .bool .nil), pre := fun x => True, F := fun x => (within x.1 x.2.1 x.2.2.1, ()) }
def cWithin2_0  (n : Int) (lo : Int) (hi : Int) (y0 : Bool) : Prop :=
  if (decide (lo ≤ n)) = true then (True ∧ ((bif true then (decide (n ≤ hi)) else false) = y0 ∧ True)) else (false = false ∧ (false = y0 ∧ True))
theorem cWithin2_law (h : ∀ (n : Int) (lo : Int) (hi : Int), cWithin2.A.wf (n, lo, hi, ()) → cWithin2_0  n lo hi (within n lo hi)) : ConOK Go.Proofs.Tryz.prog 150 cWithin2 := by
  refine lawL (Γ := []) (Θ := Th) (n := 15) [] trivial (by kernel_rfl) th_ok mix_ok Go.Proofs.Tryz.func150 (by kernel_rfl) ?_
  intro x hw hp Λ hC
  have h0 := h x.1 x.2.1 x.2.2.1 hw  
  exact Eq.mpr (by kernel_rfl) h0
theorem cWithin2_ok : ConOK Go.Proofs.Tryz.prog 150 cWithin2 := by
  refine cWithin2_law ?_
  intro n lo hi hw
  unfold cWithin2_0
  unfold within
  split <;> simp_all
  omega
abbrev cIsVal2 : Con := { A := (.cons .int .nil), R := (.cons .bool .nil), pre := fun x => True, F := fun x => (isVal x.1, ()) }
def cIsVal2_0  (n : Int) (y0 : Bool) : Prop :=
  True ∧ ((within n (-999 : Int) (999 : Int)) = y0 ∧ True)
theorem cIsVal2_law (h : ∀ (n : Int), cIsVal2.A.wf (n, ()) → cIsVal2_0  n (isVal n)) : ConOK Go.Proofs.Tryz.prog 138 cIsVal2 := by
  refine lawL (Γ := [(150, cWithin2)]) (Θ := Th) (n := 5) [] ⟨cWithin2_ok, trivial⟩ (by kernel_rfl) th_ok mix_ok Go.Proofs.Tryz.func138 (by kernel_rfl) ?_
  intro x hw hp Λ hC
  have h0 := h x.1 hw  
  exact Eq.mpr (by kernel_rfl) h0
theorem cIsVal2_ok : ConOK Go.Proofs.Tryz.prog 138 cIsVal2 := by
  refine cIsVal2_law ?_
  intro n hw
  unfold cIsVal2_0
  exact ⟨trivial, rfl, trivial⟩
abbrev cIsReg2 : Con := { A := (.cons .int .nil), R := (.cons .bool .nil), pre := fun x => True, F := fun x => (isReg x.1, ()) }
def cIsReg2_0  (n : Int) (y0 : Bool) : Prop :=
  True ∧ ((within n (0 : Int) (3 : Int)) = y0 ∧ True)
theorem cIsReg2_law (h : ∀ (n : Int), cIsReg2.A.wf (n, ()) → cIsReg2_0  n (isReg n)) : ConOK Go.Proofs.Tryz.prog 137 cIsReg2 := by
  refine lawL (Γ := [(150, cWithin2)]) (Θ := Th) (n := 5) [] ⟨cWithin2_ok, trivial⟩ (by kernel_rfl) th_ok mix_ok Go.Proofs.Tryz.func137 (by kernel_rfl) ?_
  intro x hw hp Λ hC
  have h0 := h x.1 hw  
  exact Eq.mpr (by kernel_rfl) h0
theorem cIsReg2_ok : ConOK Go.Proofs.Tryz.prog 137 cIsReg2 := by
  refine cIsReg2_law ?_
  intro n hw
  unfold cIsReg2_0
  exact ⟨trivial, rfl, trivial⟩
abbrev cIsState : Con := { A := (.cons (.sl .int) .nil), R := (.cons .bool .nil), pre := fun x => True, F := fun x => (validS x.1, ()) }
def cIsState_0  (in_ : (List Int)) (y0 : Bool) : Prop :=
  True ∧ (((argErr (validS in_)) == (0 : Int)) = y0 ∧ True)
theorem cIsState_law (h : ∀ (in_ : (List Int)), cIsState.A.wf (in_, ()) → cIsState_0  in_ (validS in_)) : ConOK Go.Proofs.Tryz.prog 136 cIsState := by
  refine lawL (Γ := [(149, cValS)]) (Θ := Th) (n := 6) [] ⟨cValS_ok, trivial⟩ (by kernel_rfl) th_ok mix_ok Go.Proofs.Tryz.func136 (by kernel_rfl) ?_
  intro x hw hp Λ hC
  have h0 := h x.1 hw  
  exact Eq.mpr (by kernel_rfl) h0
theorem cIsState_ok : ConOK Go.Proofs.Tryz.prog 136 cIsState := by
  refine cIsState_law ?_
  intro in_ hw
  unfold cIsState_0
  refine ⟨trivial, ?_⟩
  cases validS in_ <;> exact ⟨rfl, trivial⟩
abbrev cWithinR2 : Con := { A := (.cons .int (.cons .int (.cons .int .nil))), R := (.cons .bool .nil), pre := fun x => True, F := fun x => (within x.1 x.2.1 x.2.2.1, ()) }
def cWithinR2_0  (n : Int) (lo : Int) (hi : Int) (y0 : Bool) : Prop :=
  if (decide (n ≥ lo)) = true then (True ∧ ((bif true then (decide (n ≤ hi)) else false) = y0 ∧ True)) else (false = false ∧ (false = y0 ∧ True))
theorem cWithinR2_law (h : ∀ (n : Int) (lo : Int) (hi : Int), cWithinR2.A.wf (n, lo, hi, ()) → cWithinR2_0  n lo hi (within n lo hi)) : ConOK Go.Proofs.Tryz.prog 140 cWithinR2 := by
  refine lawL (Γ := []) (Θ := Th) (n := 15) [] trivial (by kernel_rfl) th_ok mix_ok Go.Proofs.Tryz.func140 (by kernel_rfl) ?_
  intro x hw hp Λ hC
  have h0 := h x.1 x.2.1 x.2.2.1 hw  
  exact Eq.mpr (by kernel_rfl) h0
theorem cWithinR2_ok : ConOK Go.Proofs.Tryz.prog 140 cWithinR2 := by
  refine cWithinR2_law ?_
  intro n lo hi hw
  unfold cWithinR2_0
  unfold within
  split <;> simp_all
  omega
end Go.Tk
/- Plain facts: tests (layer 2). No program in sight. -/
set_option linter.unusedSimpArgs false
set_option linter.unusedVariables false
namespace Go.Tk
open Go Go.RowKit

def isTst (t : Tst) : Bool := validS t.1 && isReg t.2.1 && isVal t.2.2.1
def validT (l : List Tst) : Int := if l.length > 8 then 3 else argErr (l.all isTst)
def firstErr : List (List Lin) → Int
  | [] => 0
  | p :: ps => if validP p = 0 then firstErr ps else validP p
def errT (ps : List (List Lin)) (l : List Tst) : Int := if firstErr ps = 0 then validT l else firstErr ps
def endT (p : List Lin) (t : Tst) : Int := Rg (runS p t.1) t.2.1
def passT (p : List Lin) (t : Tst) : Bool := endT p t == t.2.2.1
/-- The places of what is so. -/
def whereTo (f : Tst → Bool) (l : List Tst) : Nat → List Int
  | 0 => []
  | n + 1 => whereTo f l n ++ if f (l.getD n tTs.dflt) = true then [(n : Int)] else []
def whereL (f : Tst → Bool) (l : List Tst) : List Int := whereTo f l l.length

theorem whereTo_len (f : Tst → Bool) (l : List Tst) : ∀ n, (whereTo f l n).length ≤ n
  | 0 => Nat.le_refl _
  | n + 1 => by
    unfold whereTo
    rw [List.length_append]
    have := whereTo_len f l n
    split <;> simp <;> omega
theorem whereTo_both (f : Tst → Bool) (l : List Tst) : ∀ n, (whereTo f l n).length + (whereTo (fun t => !f t) l n).length = n
  | 0 => rfl
  | n + 1 => by
    unfold whereTo
    rw [List.length_append, List.length_append]
    have := whereTo_both f l n
    cases f (l.getD n tTs.dflt) <;> simp <;> omega
theorem where_both (f : Tst → Bool) (l : List Tst) : (whereL f l).length + (whereL (fun t => !f t) l).length = l.length := whereTo_both f l l.length
theorem whereL_len (f : Tst → Bool) (l : List Tst) : (whereL f l).length ≤ l.length := whereTo_len f l l.length
theorem whereTo_congr {f g : Tst → Bool} (l : List Tst) : ∀ n, n ≤ l.length → (∀ t ∈ l, f t = g t) → whereTo f l n = whereTo g l n
  | 0, _, _ => rfl
  | n + 1, h, e => by
    unfold whereTo
    rw [whereTo_congr l n (by omega) e, e _ (mem_getD (by omega))]

theorem isTst_iff {t : Tst} : isTst t = true ↔ validS t.1 = true ∧ (0 ≤ t.2.1 ∧ t.2.1 ≤ 3) ∧ (-999 ≤ t.2.2.1 ∧ t.2.2.1 ≤ 999) := by
  unfold isTst isReg isVal
  rw [Bool.and_eq_true, Bool.and_eq_true, within_iff, within_iff, and_assoc]
theorem validT_ok {l : List Tst} (h : validT l = 0) : l.length ≤ 8 ∧ ∀ t ∈ l, isTst t = true := by
  unfold validT at h
  split at h
  · omega
  · exact ⟨by omega, fun t ht => List.all_eq_true.1 (argErr_zero.1 h) t ht⟩
theorem errT_ok {p : List Lin} {l : List Tst} (h : errT [p] l = 0) : validP p = 0 ∧ validT l = 0 := by
  unfold errT firstErr firstErr at h
  by_cases e : validP p = 0
  · rw [if_pos e, if_pos rfl] at h; exact ⟨e, h⟩
  · rw [if_neg e, if_neg e] at h; exact absurd h e
theorem errT2_ok {p q : List Lin} {l : List Tst} (h : errT [p, q] l = 0) : validP p = 0 ∧ validP q = 0 ∧ validT l = 0 := by
  unfold errT firstErr firstErr firstErr at h
  by_cases e : validP p = 0
  · rw [if_pos e] at h
    by_cases e2 : validP q = 0
    · rw [if_pos e2, if_pos rfl] at h; exact ⟨e, e2, h⟩
    · rw [if_neg e2, if_neg e2] at h; exact absurd h e2
  · rw [if_neg e, if_neg e] at h; exact absurd h e

/-! ### Tables -/
def markTo (l : List Int) (r : List Int) : Nat → List Int
  | 0 => r
  | n + 1 => (markTo l r n).set (l.getD n 0).toNat 1
theorem markTo_len (l r : List Int) : ∀ n, (markTo l r n).length = r.length
  | 0 => rfl
  | n + 1 => by unfold markTo; rw [List.length_set, markTo_len l r n]
def rowT (p : List Lin) (t : Tst) : List Int := markTo (doneS p t.1) (List.replicate p.length 0) (doneS p t.1).length
theorem rowT_len (p : List Lin) (t : Tst) : (rowT p t).length = p.length := by unfold rowT; rw [markTo_len, List.length_replicate]
def tableT (p : List Lin) (l : List Tst) : List (List Int) := l.map (rowT p)
theorem doneS_ok {p : List Lin} {s : List Int} (h : validS s = true) {i : Nat} (hi : i < (doneS p s).length) : 0 ≤ (doneS p s).getD i 0 ∧ (doneS p s).getD i 0 < p.length := by
  have g : (doneS p s).getD i 0 ∈ doneS p s := mem_getD hi
  unfold doneS at g
  obtain ⟨v, hv, e⟩ := List.mem_map.1 g
  have := visits_ok h v hv
  unfold doneS
  omega
theorem doneS_len (p : List Lin) (s : List Int) : (doneS p s).length ≤ p.length := by unfold doneS; rw [List.length_map]; exact visits_len _ _ _
theorem map_take_next {α β : Type} (f : α → β) (l : List α) (d : α) {i : Nat} (h : i < l.length) : (l.map f).take (i + 1) = (l.map f).take i ++ [f (l.getD i d)] := by
  rw [← List.map_take, ← List.map_take, take_snoc d h, List.map_append]; rfl
/-- The lines done in some test. -/
def covTo (rows : List (List Int)) : Nat → List Int
  | 0 => []
  | n + 1 => covTo rows n ++ if (rows.any fun r => r.getD n 0 == 1) = true then [(n : Int)] else []
theorem covTo_len (rows : List (List Int)) : ∀ n, (covTo rows n).length ≤ n
  | 0 => Nat.le_refl _
  | n + 1 => by
    unfold covTo
    rw [List.length_append]
    have := covTo_len rows n
    split <;> simp <;> omega
def coverT (p : List Lin) (l : List Tst) : List Int := covTo (tableT p l) p.length
theorem table_row {p : List Lin} {l : List Tst} {r : List Int} (h : r ∈ tableT p l) : r.length = p.length := by
  obtain ⟨t, _, rfl⟩ := List.mem_map.1 h
  exact rowT_len p t
def tellsT (p q : List Lin) (l : List Tst) : List Int := whereL (fun t => endT p t != endT q t) l
theorem tells_comm (p q : List Lin) (l : List Tst) : tellsT q p l = tellsT p q l := by
  unfold tellsT
  congr 1
  funext t
  exact bne_comm
def failL (p : List Lin) (l : List Tst) : List Int := whereL (fun t => !passT p t) l
end Go.Tk
