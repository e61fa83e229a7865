/- The engine, part E: what a call asks and gives; an abstract value seen as a datum; new and frozen memory. No conditions. -/
import Derived.Test.YtmedjckknalpbaaEngD
set_option linter.unusedSimpArgs false
set_option linter.unusedVariables false
namespace Go.Tk
open Go Go.RowKit

/-- What a call asks and gives: at the data x that its arguments are, under 'pre', it returns the data F x, in memory of its own (or, where 'al' is said, of the arguments'); all that was there is as it was. -/
def ConF (P : Program) (f : FuncId) (c : Con) : Prop := ∀ (w : World) (S : Nat → Prop) (x : c.A.den) (vs : List Value), (reps P c.A).v w S x vs [] → c.pre x →
  Calls P f vs.toArray w fun e w' => ∃ rs bs, e = .returned (mkRes rs) ∧ (reps P c.R).v w' (fun b => (w.heap.size ≤ b ∨ (c.al = true ∧ S b)) ∧ b ∉ bs) (c.F x) rs bs ∧ bs.Nodup ∧ (∀ b ∈ bs, w.heap.size ≤ b) ∧ Below w.heap.size w w'

/-- What an iterator hands over: its captured data are z. -/
def ItOK (P : Program) (g : FuncId) (fr : Bool) (A a : T) (F : A.den → (T.seq fr a).den) : Prop := ∀ (w : World) (S : Nat → Prop) (z : A.den) (caps : List Value), (reps P A).v w S z caps [] → SeqOK P fr (reps P a) g caps w S (F z)

def ConOK (P : Program) (f : FuncId) (c : Con) : Prop := (c.R.isSeq = false → ConF P f c) ∧ ∀ fr a (h : c.R = .seq fr a), ItOK P f fr c.A a (fun x => h ▸ c.F x)

theorem ConOK.f {P : Program} {f : FuncId} {c : Con} (h : ConF P f c) (hR : c.R.isSeq = false) : ConOK P f c := ⟨fun _ => h, fun fr a e => by rw [e] at hR; cases hR⟩

theorem lkF_some : ∀ {Γ : List (Nat × Con)} {g : Nat} {c : Con}, lkF Γ g = some c → lk Γ g = some c ∧ c.R.isSeq = false
  | [], _, _, h => by cases h
  | (k, a) :: l, g, c, h => by
    simp only [lkF] at h
    simp only [lk]
    cases e : Nat.beq k g <;> rw [e] at h <;> simp only at h ⊢
    · exact lkF_some h
    · split at h
      · cases h
      · rename_i hs; cases h; exact ⟨rfl, hs⟩

/-- What a function gives that multiplies two numbers of 64 bits. -/
def MulOK (P : Program) (f : FuncId) : Prop := ∀ (x y : Nat) (w : World), x < 18446744073709551616 → y < 18446744073709551616 →
  Calls P f #[.int .u64 x, .int .u64 y] w fun e w' => e = .returned (.tuple #[.int .u64 ((x * y / 18446744073709551616 : Nat) : Int), .int .u64 ((x * y % 18446744073709551616 : Nat) : Int)]) ∧ w' = w

/-- The heap but for one block. -/
structure OwnBut (w w' : World) (ob : Option (Nat × Nat)) : Prop where
  os : w'.os = w.os
  tape : w'.tape = w.tape
  output : w'.output = w.output
  size : w.heap.size ≤ w'.heap.size
  block : ∀ i, i < w.heap.size → (∀ o, ob ≠ some (i, o)) → w'.heap[i]? = w.heap[i]?

/-- What a call asks and gives that changes an own slice. -/
def InF (P : Program) (f : FuncId) (c : InC) : Prop := ∀ (w : World) (S : Nat → Prop) (xs : List c.a.den) (x : c.B.den) (v : Value) (ob : Option (Nat × Nat)) (vs : List Value),
  repOwn ((reps P c.a).c w S) c.a.csize w (fun _ => True) xs v ob → (∀ b o, ob = some (b, o) → ¬ S b) → (reps P c.B).v w S x vs [] → c.pre xs x →
  Calls P f (v :: vs).toArray w fun e w' => ∃ v' ob', (match c.ret with | true => e = .returned v' | false => (∃ u, e = .returned u) ∧ v' = v ∧ ob' = ob) ∧
    repOwn ((reps P c.a).c w' (fun b => (S b ∨ w.heap.size ≤ b) ∧ ∀ o, ob' ≠ some (b, o))) c.a.csize w' (fun _ => True) (c.F xs x) v' ob' ∧ (∀ b o, ob' = some (b, o) → w.heap.size ≤ b ∨ ∃ o', ob = some (b, o')) ∧ OwnBut w w' ob

/-- What a call asks and gives that may panic. -/
def PanF (P : Program) (f : FuncId) (c : PanC) : Prop := ∀ (w : World) (n : Nat) (S : Nat → Prop) (x1 : c.A1.den) (x2 : c.A2.den) (vs us : List Value), n ≤ w.heap.size → (reps P c.A1).v w (fun b => n ≤ b ∨ S b) x1 vs [] → (reps P c.A2).v w (fun b => n ≤ b) x2 us [] → c.pre x1 x2 →
  Calls P f (vs ++ us).toArray w fun e w' => Below w.heap.size w w' ∧ ((c.F x1 x2 = none ∧ ∃ u, e = .returned u) ∨
    ∃ y cs, c.F x1 x2 = some y ∧ e = .panicked [{ v := .iface c.ty (mkV c.R cs), recovered := false }] ∧ (reps P c.R).c w' (fun b => n ≤ b) y cs)

/-- What a call asks and gives that is handed nil first. -/
def NilF (P : Program) (f : FuncId) (c : Con) : Prop := ∀ (w : World) (S : Nat → Prop) (x : c.A.den) (vs : List Value), (reps P c.A).v w S x vs [] → c.pre x →
  Calls P f (Value.slice none 0 0 :: vs).toArray w fun e w' => ∃ rs bs, e = .returned (mkRes rs) ∧ (reps P c.R).v w' (fun b => w.heap.size ≤ b ∧ b ∉ bs) (c.F x) rs bs ∧ bs.Nodup ∧ (∀ b ∈ bs, w.heap.size ≤ b) ∧ Below w.heap.size w w'

/-- A type of values that lie in interfaces. -/
def IfcOK (P : Program) (i : TypeId) : Prop := ∃ d, P.underlying i = some d ∧ ∀ a, d ≠ .interface a

/-- Two numbers: a type of arrays that are compared. -/
def ArrOK (P : Program) (i : TypeId) : Prop := ∃ e, P.underlying i = some (.array 2 e) ∧ (tys P .int).ty e ∧ P.eqGuardType P.depth i = false

structure XOK (P : Program) (X : Xtr) : Prop where
  U : ∀ i, inN X.U i = true → P.underlying i = some (.int .u64)
  mul : ∀ f, inN X.mul f = true → FunOK P f ∧ MulOK P f
  inp : ∀ f c, lk X.inp f = some c → FunOK P f ∧ InF P f c
  arr : ∀ i, inN X.arrs i = true → ArrOK P i
  pcs : ∀ f c, lk X.pcs f = some c → FunOK P f ∧ PanF P f c
  pan : ∀ p, X.pan = some p → IfcOK P p.ty
  nil : ∀ f c, lk X.nilc f = some c → FunOK P f ∧ NilF P f c

structure Cok (P : Program) (cx : Cx) : Prop where
  fn : ∀ f c, lk cx.Γ f = some c → FunOK P f
  Γ : ∀ f c, lk cx.Γ f = some c → ConOK P f c
  Θ : ∀ i t, lk cx.Θ i = some t → (tys P t).ty i
  X : XOK P cx.X

theorem Cok.fF {P : Program} {cx : Cx} (h : Cok P cx) {f : FuncId} {c : Con} (e : lkF cx.Γ f = some c) : ConF P f c := (h.Γ f c (lkF_some e).1).1 (lkF_some e).2

def Sub (m' m : Mem) : Prop := ∀ k x, m' k = some x → m k = some x

theorem v_app {P : Program} {w : World} {S : Nat → Prop} : ∀ (a b : T) (x : a.den) (y : b.den) (vs us : List Value), (reps P a).v w S x vs [] → (reps P b).v w S y us [] → (reps P (a.app b)).v w S (appX a b x y) (vs ++ us) []
  | .nil, _, _, _, _, _, ⟨e, _⟩, hb => by subst e; exact hb
  | .cons a c, b, x, y, _, us, ⟨v, vs', b1, b2, e, e2, h1, h2⟩, hb => by
    obtain ⟨rfl, rfl⟩ := List.append_eq_nil_iff.1 e2.symm
    subst e
    exact ⟨v, vs' ++ us, [], [], rfl, rfl, h1, v_app c b x.2 y vs' us h2 hb⟩
  | .int, _, _, _, _, _, h, _ => h.elim
  | .bool, _, _, _, _, _, h, _ => h.elim
  | .sl _, _, _, _, _, _, h, _ => h.elim
  | .osl _, _, _, _, _, _, h, _ => h.elim
  | .ref _, _, _, _, _, _, h, _ => h.elim
  | .arr _ _, _, _, _, _, _, h, _ => h.elim
  | .fn _ _, _, _, _, _, _, h, _ => h.elim
  | .nsl _, _, _, _, _, _, h, _ => h.elim
  | .seq _ _, _, _, _, _, _, h, _ => h.elim

/-- A result of a function that gives new memory, under any wider set of blocks. -/
theorem o_mono {P : Program} (t : T) {w : World} {S S' : Nat → Prop} {x : t.den} {v : Value} {bs : List Nat} (h : (reps P t).o w S x v bs) (hs : ∀ b, S b → S' b) : (reps P t).o w S' x v bs := by
  cases t
  case osl a =>
    obtain ⟨ob, h, e⟩ := h
    exact ⟨ob, h.keep (Keep.refl _ _) (fun _ _ h => h) fun _ _ h' => c_keep a h' (Keep.refl _ _) (fun b _ h => hs b h), e⟩
  case int => obtain ⟨e, cs, e2, h⟩ := h; exact ⟨e, cs, e2, c_keep (P := P) .int h (Keep.refl S w) (fun b _ h => hs b h)⟩
  case bool => obtain ⟨e, cs, e2, h⟩ := h; exact ⟨e, cs, e2, c_keep (P := P) .bool h (Keep.refl S w) (fun b _ h => hs b h)⟩
  case nil => obtain ⟨e, cs, e2, h⟩ := h; exact ⟨e, cs, e2, c_keep (P := P) (x := x) .nil h (Keep.refl S w) (fun b _ h => hs b h)⟩
  case cons a b => obtain ⟨e, cs, e2, h⟩ := h; exact ⟨e, cs, e2, c_keep (.cons a b) h (Keep.refl S w) (fun b _ h => hs b h)⟩
  case sl a => obtain ⟨e, cs, e2, h⟩ := h; exact ⟨e, cs, e2, c_keep (.sl a) h (Keep.refl S w) (fun b _ h => hs b h)⟩
  case ref a => obtain ⟨e, cs, e2, h⟩ := h; exact ⟨e, cs, e2, c_keep (.ref a) h (Keep.refl S w) (fun b _ h => hs b h)⟩
  case arr n a => obtain ⟨e, cs, e2, h⟩ := h; exact ⟨e, cs, e2, c_keep (.arr n a) h (Keep.refl S w) (fun b _ h => hs b h)⟩
  case fn a r => obtain ⟨e, cs, e2, h⟩ := h; exact ⟨e, cs, e2, c_keep (.fn a r) h (Keep.refl S w) (fun b _ h => hs b h)⟩
  case nsl a => obtain ⟨e, cs, e2, h⟩ := h; exact ⟨e, cs, e2, c_keep (.nsl a) h (Keep.refl S w) (fun b _ h => hs b h)⟩
  case seq fr a => obtain ⟨e, cs, e2, h⟩ := h; exact ⟨e, cs, e2, c_keep (.seq fr a) h (Keep.refl S w) (fun b _ h => hs b h)⟩

theorem v_mono {P : Program} : ∀ (t : T) {w : World} {S S' : Nat → Prop} {x : t.den} {vs : List Value} {bs : List Nat}, (reps P t).v w S x vs bs → (∀ b, S b → S' b) → (reps P t).v w S' x vs bs
  | .nil, _, _, _, _, _, _, h, _ => h
  | .cons a b, _, _, _, _, _, _, ⟨v, vs', b1, b2, e, e2, h1, h2⟩, hs => ⟨v, vs', b1, b2, e, e2, o_mono a h1 hs, v_mono b h2 hs⟩
  | .int, _, _, _, _, _, _, h, _ => h.elim
  | .bool, _, _, _, _, _, _, h, _ => h.elim
  | .sl _, _, _, _, _, _, _, h, _ => h.elim
  | .osl _, _, _, _, _, _, _, h, _ => h.elim
  | .ref _, _, _, _, _, _, _, h, _ => h.elim
  | .arr _ _, _, _, _, _, _, _, h, _ => h.elim
  | .fn _ _, _, _, _, _, _, _, h, _ => h.elim
  | .nsl _, _, _, _, _, _, _, h, _ => h.elim
  | .seq _ _, _, _, _, _, _, _, h, _ => h.elim

theorem c_mono {P : Program} (t : T) {w : World} {S S' : Nat → Prop} {x : t.den} {cs : List Value} (h : (reps P t).c w S x cs) (hs : ∀ b, b < w.heap.size → S b → S' b) : (reps P t).c w S' x cs := c_keep t h (Keep.refl S w) hs

theorem repSl_of_own {α : Type} {R R' : α → List Value → Prop} {size : Nat} {w : World} {S S' : Nat → Prop} {xs : List α} {v : Value} {ob : Option (Nat × Nat)} (h : repOwn R size w S xs v ob) (hs : ∀ b o, ob = some (b, o) → S' b) (hR : ∀ x cs, R x cs → R' x cs) : repSl R' w S' xs v := by
  rcases h with ⟨rfl, rfl, rfl⟩ | ⟨b, off, cap, cur, e, h1, h2, h3, h4, h5, h6, h7, h8⟩
  · exact ⟨none, 0, rfl, Nat.le_refl _, Nat.zero_le _, .inl rfl⟩
  · refine ⟨_, cap, h2, h5, h6.1, .inr ⟨b, off, _, rfl, hs b off h1, (Array.getElem?_eq_some_iff.1 h4).1, ?_, repL_mono hR _ _ h8⟩⟩
    intro j v hv
    rw [cell_of_row w b (off + j) cur e (0, 0) h4]
    rw [List.getElem?_take] at hv
    split at hv
    · simpa using hv
    · cases hv

section
variable {P : Program} {B : Bs} {G : Nat → Gh} {m m' : Mem} {w w0 : World} {cx : Cx}

/-- A closure of ours is a function of data. -/
theorem fnOK_of (hk : Cok P cx) {g : FuncId} {con : Con} (hg : lkF cx.Γ g = some con) (hal : con.al = false) {a r ct : T} (hA : a.app ct = con.A) (hR : con.R = r) (z : ct.den) (caps : List Value) {S0 S : Nat → Prop} (hc : (reps P ct).v w S0 z caps []) (hS : ct = .nil ∨ ∀ b, b < w.heap.size → S0 b → S b) :
    fnOK P (reps P a) (reps P r) g caps w S (fun x => con.pre (hA ▸ appX a ct x z), fun x => hR ▸ con.F (hA ▸ appX a ct x z)) := by
  have hcon := hk.fF hg
  obtain ⟨A, R, pre, F, al⟩ := con
  simp only at hal hA hR
  subst hal; subst hA; subst hR
  intro w' hkeep S' x vs hx hpre
  have hc' : (reps P ct).v w' (fun _ => True) z caps [] := by
    rcases hS with rfl | hS
    · exact hc
    · exact v_keep ct (S' := fun _ => True) hc ⟨hkeep.1, fun b hb h => hkeep.2 b hb (hS b hb.lt h)⟩ (fun _ _ _ => trivial)
  have hx' : (reps P a).v w' (fun _ => True) x vs [] := v_mono a hx fun _ _ => trivial
  refine (hcon w' (fun _ => True) (appX a ct x z) (vs ++ caps) (v_app a ct x z vs caps hx' hc') hpre).mono ?_
  rintro e w'' ⟨rs, bs, he, h1, h2, h3, h4⟩
  exact ⟨rs, bs, he, v_mono _ h1 fun b ⟨hb, hn⟩ => ⟨hb.resolve_right (fun h => by simp at h), hn⟩, h2, h3, h4⟩

theorem castT_eq {a b : T} (h : a.beq b = true) (x : a.den) : castT h x = (T.beq_eq h) ▸ x := rfl

theorem c_cast {a b : T} (h : a.beq b = true) {x : a.den} {S : Nat → Prop} {cs : List Value} (hc : (reps P a).c w S x cs) : (reps P b).c w S (castT h x) cs := by
  obtain rfl := T.beq_eq h
  exact hc

theorem mkV_beq {a b : T} (h : a.beq b = true) (cs : List Value) : mkV a cs = mkV b cs := by rw [T.beq_eq h]

theorem repL_one {α : Type} {R : α → List Value → Prop} : ∀ (xs : List α) (vs cs : List Value), repL (fun v cs => cs = [v]) vs cs → vs.length = xs.length → (∀ (n : Nat) (x : α) (v : Value), xs[n]? = some x → vs[n]? = some v → R x [v]) → repL R xs cs
  | [], [], cs, h, _, _ => h
  | [], _ :: _, _, _, h, _ => by simp at h
  | _ :: _, [], _, _, h, _ => by simp at h
  | x :: xs, v :: vs, _, ⟨c1, c2, e, h1, h2⟩, hl, h => ⟨c1, c2, e, by rw [h1]; exact h 0 x v rfl rfl, repL_one xs vs c2 h2 (by simpa using hl) fun n x v hx hv => h (n + 1) x v (by simpa using hx) (by simpa using hv)⟩

/-- A nested own slice, whole. -/
theorem nl_sl {k : Nat} {f : Bool} {t : T} {xss : List (List t.den)} {h : Nat} (hl : LRep P B G m w k (.nl f t xss h none)) {S : Nat → Prop} (h1 : ∀ b, b < w.heap.size → dS B G m f b → S b) (h2 : ∀ b, ownL (G k) (.nl f t xss h none) b → S b) :
    repSl ((reps P (.sl t)).c w S) w S xss (G k).hdr := by
  obtain ⟨vs, a1, a2, a3, a4, _⟩ := hl
  have key : ∀ (n : Nat) (xs : List t.den) (v : Value), xss[n]? = some xs → vs[n]? = some v → (reps P (.sl t)).c w S xs [v] := by
    intro n xs v hx hv
    have hv := (a3 n v hv).resolve_right (by simp)
    refine ⟨v, rfl, ?_⟩
    rw [hv]
    exact repSl_of_own (a4 n xs hx (by simp)) (fun b o e => h2 b (.inr ⟨n, o, e⟩)) fun _ _ h => c_mono t h h1
  have := repSl_of_own (R' := fun v cs => cs = [v]) a1 (S' := S) (fun b o e => h2 b (.inl ⟨o, e⟩)) fun _ _ h => h
  obtain ⟨ao, cap, e, b1, b2, b3⟩ := this
  refine ⟨ao, cap, by rw [← a2]; exact e, by omega, by omega, ?_⟩
  rcases b3 with b3 | ⟨b, off, cs, c1, c2, c3, c4, c5⟩
  · left
    subst b3
    exact List.eq_nil_of_length_eq_zero (by rw [← a2]; rfl)
  · exact .inr ⟨b, off, cs, c1, c2, c3, c4, repL_one xss vs cs c5 a2 key⟩

theorem ownX_spec (hm : MRel P B G m w w0) (hs : Sub m' m) {k g : Nat} {f : Bool} {s : T} {xs : List s.den} (h : ownX m' k g = some (f, ⟨s, xs⟩)) {v : Value} (hv : ERep P B G m w (.own k g) v) {S : Nat → Prop}
    (h1 : ∀ b, b < w.heap.size → dS B G m f b → S b) (h2 : ∀ l g, m k = some (g, l) → l.mut = true → ∀ b, ownL (G k) l b → S b) : repSl ((reps P s).c w S) w S xs v := by
  obtain ⟨g', l, hk, hle, hv⟩ := hv
  unfold ownX at h
  have hR : ∀ x cs, (reps P s).c w (dS B G m f) x cs → (reps P s).c w S x cs := fun x cs hc => c_mono s hc h1
  split at h
  · rename_i g2 f' s' xs' e
    split at h <;> try cases h
    rename_i hg
    have := hs _ _ e
    rw [hk] at this; cases this
    rw [hv (Nat.eq_of_beq_eq_true hg)]
    exact repSl_of_own (hm.loc k _ _ hk) (fun b o hb => h2 _ _ hk rfl b ⟨o, hb⟩) hR
  · rename_i g2 f' s' xs' e
    split at h <;> try cases h
    rename_i hg
    have := hs _ _ e
    rw [hk] at this; cases this
    rw [hv (Nat.eq_of_beq_eq_true hg)]
    obtain ⟨v', e', hr⟩ := hm.loc k _ _ hk
    cases e'
    exact hr.keep (Keep.refl (dS B G m f) w) h1 hR
  · rename_i g2 f' n s' xs' e
    split at h <;> try cases h
    rename_i hg
    rw [Bool.and_eq_true] at hg
    have := hs _ _ e
    rw [hk] at this; cases this
    rw [hv (Nat.eq_of_beq_eq_true hg.1)]
    obtain ⟨b, cur, e, a1, a2, a3, a4, a5, a6⟩ := hm.loc k _ _ hk
    have hle := Nat.le_of_ble_eq_true hg.2
    refine ⟨some ⟨b, 0, none⟩, n, by simp only [hdrOf, a2]; rw [a5], by omega, by omega, .inr ⟨b, 0, cur.toList, rfl, h2 _ _ hk rfl b ⟨0, a1⟩, (Array.getElem?_eq_some_iff.1 a4).1, ?_, repL_mono hR _ _ a6⟩⟩
    intro j v hv
    rw [cell_of_row w b (0 + j) cur e (0, 0) a4]
    simpa using hv
  · rename_i g2 f' t xss hh e
    split at h <;> try cases h
    rename_i hg
    have := hs _ _ e
    rw [hk] at this; cases this
    rw [hv (Nat.eq_of_beq_eq_true hg)]
    exact nl_sl (hm.loc k _ _ hk) h1 fun b hb => h2 _ _ hk rfl b hb
  · cases h

theorem innX_spec (hm : MRel P B G m w w0) (hs : Sub m' m) {k g hh n : Nat} {f : Bool} {s : T} {xs : List s.den} (h : innX m' k g hh n = some (f, ⟨s, xs⟩)) {v : Value} (hv : ERep P B G m w (.inn k g hh n) v) :
    ∃ xss hole, m k = some (g, .nl f s xss hh hole) ∧ hole ≠ some n ∧ xss[n]? = some xs ∧ v = (G k).ih n ∧ repOwn ((reps P s).c w (dS B G m f)) s.csize w (fun b => B.n ≤ b) xs v ((G k).ib n) := by
  obtain ⟨g', l, hk, hle, hv⟩ := hv
  unfold innX at h
  split at h
  · rename_i g2 f' s' xss h' hole e
    split at h
    · rename_i hb
      simp only [Bool.and_eq_true] at hb
      obtain ⟨hb1, hb2, hb3⟩ := hb
      simp only [Option.some.injEq, Prod.mk.injEq, Sigma.mk.injEq] at h
      obtain ⟨rfl, rfl, h⟩ := h
      have h := eq_of_heq h
      have e2 := hs _ _ e
      rw [hk] at e2; cases e2
      obtain rfl := Nat.eq_of_beq_eq_true hb1
      obtain rfl := Nat.eq_of_beq_eq_true hb2
      have hne : hole ≠ some n := by
        intro e; subst e; simp at hb3
      obtain ⟨_, hv⟩ := hv rfl
      obtain ⟨hlt, rfl⟩ := hv rfl
      have hx : xss[n]? = some xs := by rw [getD_of_lt (d := []) hlt, h]
      obtain ⟨vs, a1, a2, a3, a4, _⟩ := hm.loc k _ _ hk
      exact ⟨xss, hole, hk, hne, hx, rfl, a4 n xs hx hne⟩
    · cases h
  · cases h

/-- The local that an abstract value is a slice of. -/
def V.loc? : V → Option Nat
  | .own k _ => some k
  | .inn k _ _ _ => some k
  | _ => none

/-- An abstract value seen as a datum: the datum is there. -/
theorem asD_gen (hk : Cok P cx) (hm : MRel P B G m w w0) (hs : Sub m' m) {t : T} {V : V} {f : Bool} {x : t.den} (h : asD cx.Γ m' t V = some (f, x)) {v : Value} (hv : ERep P B G m w V v) {S : Nat → Prop}
    (h1 : ∀ b, b < w.heap.size → dS B G m f b → S b) (h2 : ∀ k, V.loc? = some k → ∀ l g, m k = some (g, l) → l.mut = true → ∀ b, ownL (G k) l b → S b) : ∃ cs, v = mkV t cs ∧ (reps P t).c w S x cs := by
  unfold asD at h
  split at h
  · cases h; obtain ⟨cs, e, hc⟩ := hv; exact ⟨cs, e, c_mono .int hc h1⟩
  · cases h; obtain ⟨cs, e, hc⟩ := hv; exact ⟨cs, e, c_mono .bool hc h1⟩
  · split at h
    · rename_i a k g _ f' s xs e
      split at h
      · rename_i hb
        cases h
        obtain rfl := T.beq_eq hb
        exact ⟨[v], rfl, v, rfl, ownX_spec hm hs e hv h1 (h2 k rfl)⟩
      · cases h
    · cases h
  · split at h
    · rename_i a k g hh n _ f' s xs e
      split at h
      · rename_i hb
        cases h
        obtain rfl := T.beq_eq hb
        obtain ⟨xss, hole, e1, e2, e3, e4, e5⟩ := innX_spec hm hs e hv
        exact ⟨[v], rfl, v, rfl, repSl_of_own e5 (fun b o hb => h2 k rfl _ _ e1 rfl b (.inr ⟨n, o, hb⟩)) fun _ _ h => c_mono s h h1⟩
      · cases h
    · cases h
  · split at h
    · rename_i hb
      cases h
      obtain rfl := T.beq_eq hb
      obtain ⟨cs, e, hc⟩ := hv
      obtain ⟨v', e2, hc, _⟩ := c_mono _ hc h1
      exact ⟨cs, e, v', e2, hc⟩
    · cases h
  · cases h
    have hv : v = .slice none 0 0 := hv
    subst hv
    exact ⟨[.slice none 0 0], rfl, _, rfl, none, 0, rfl, Nat.le_refl _, Nat.zero_le _, .inl rfl⟩
  · rename_i fr a g ct cz
    obtain ⟨caps, e, hc⟩ := hv
    split at h
    · rename_i con hg
      split at h
      · rename_i hA
        split at h
        · rename_i hR
          simp only [Option.some.injEq, Prod.mk.injEq] at h
          obtain ⟨hf, rfl⟩ := h
          have hcon := hk.Γ g con hg
          have hfn := hk.fn g con hg
          obtain ⟨A, R, pre, F, al⟩ := con
          simp only at hA hR
          obtain rfl := T.beq_eq hA
          obtain rfl := T.beq_eq hR
          refine ⟨[v], rfl, g, caps, by rw [e], hfn, ?_⟩
          have := hcon.2 fr a rfl w (fun b => b < w.heap.size ∧ dS B G m false b ∧ (ct = .nil → False)) cz caps
          have hc2 : (reps P ct).v w (fun b => b < w.heap.size ∧ dS B G m false b ∧ (ct = .nil → False)) cz caps [] := by
            cases ct with
            | nil => exact hc
            | _ => exact v_keep _ hc (Keep.refl _ w) fun b hb h => ⟨hb, h, fun e => by cases e⟩
          refine (this hc2).keep (Keep.refl _ w) fun b hb h => ?_
          cases ct with
          | nil => exact (h.2.2 rfl).elim
          | _ => subst hf; exact h1 b hb h.2.1
        · cases h
      · cases h
    · cases h
  · rename_i a r g ct cz
    obtain ⟨caps, e, hc⟩ := hv
    split at h
    · rename_i con hg
      split at h
      · rename_i hal
        split at h
        · rename_i hA
          split at h
          · rename_i hR
            simp only [Option.some.injEq, Prod.mk.injEq] at h
            obtain ⟨hf, rfl⟩ := h
            refine ⟨[v], rfl, .inr ⟨g, caps, by rw [e], hk.fn g con (lkF_some hg).1, ?_⟩⟩
            refine fnOK_of hk hg hal (T.beq_eq hA) (T.beq_eq hR) cz caps hc ?_
            cases ct with
            | nil => exact .inl rfl
            | _ => subst hf; exact .inr h1
          · cases h
        · cases h
      · cases h
    · cases h
  · split at h
    · rename_i hb
      cases h
      obtain rfl := T.beq_eq hb
      obtain ⟨b, o, cs, rfl, q1, q2, q3, q4⟩ := hv
      exact ⟨[.pointer (some ⟨b, o, none⟩)], rfl, b, o, cs, rfl, h1 b q2 q1, q2, q3, c_mono _ q4 h1⟩
    · cases h
  · split at h
    · rename_i hb
      cases h
      obtain ⟨cs, e, hc⟩ := hv
      exact ⟨cs, by rw [e, mkV_beq hb], c_cast hb (c_mono _ hc h1)⟩
    · cases h
  · cases h

theorem asD_all (hk : Cok P cx) (hm : MRel P B G m w w0) (hs : Sub m' m) {t : T} {V : V} {f : Bool} {x : t.den} (h : asD cx.Γ m' t V = some (f, x)) {v : Value} (hv : ERep P B G m w V v) : ∃ cs, v = mkV t cs ∧ (reps P t).c w (fun _ => True) x cs :=
  asD_gen hk hm hs h hv (fun _ _ _ => trivial) (fun _ _ _ _ _ _ _ _ => trivial)

theorem set1_same (m : Mem) (k g : Nat) (l : L) : set1 m k g l k = some (g, l) := by simp [set1]
theorem set1_other (m : Mem) {k n : Nat} (g : Nat) (l : L) (h : k ≠ n) : set1 m k g l n = m n := by
  unfold set1
  split
  · rename_i h'; exact absurd (Nat.eq_of_beq_eq_true h') h
  · rfl

theorem set1_cases {m : Mem} {k g n : Nat} {l : L} {x : Nat × L} (h : set1 m k g l n = some x) : (n = k ∧ x = (g, l)) ∨ (n ≠ k ∧ m n = some x) := by
  by_cases e : k = n
  · subst e; rw [set1_same] at h; cases h; exact .inl ⟨rfl, rfl⟩
  · rw [set1_other m g l e] at h; exact .inr ⟨Ne.symm e, h⟩

def setG (G : Nat → Gh) (k : Nat) (gh : Gh) : Nat → Gh := fun n => if n = k then gh else G n

theorem setG_same (G : Nat → Gh) (k : Nat) (gh : Gh) : setG G k gh k = gh := by simp [setG]
theorem setG_other (G : Nat → Gh) {k n : Nat} (gh : Gh) (h : n ≠ k) : setG G k gh n = G n := by simp [setG, h]
theorem setG_self (G : Nat → Gh) (k : Nat) : setG G k (G k) = G := by funext n; unfold setG; split <;> simp_all

theorem LRep.blk_lt {k : Nat} {l : L} (hl : LRep P B G m w k l) (hmut : l.mut = true) {b : Nat} (e : ownL (G k) l b) : b < w.heap.size ∧ B.n ≤ b := hl.own_lt hmut e

/-- Some locals change: their own blocks, and new ones. -/
structure Chgs (ch : Nat → Prop) (B : Bs) (G : Nat → Gh) (m : Mem) (w : World) (G' : Nat → Gh) (m' : Mem) (w' : World) : Prop where
  os : w'.os = w.os
  tape : w'.tape = w.tape
  output : w'.output = w.output
  size : w.heap.size ≤ w'.heap.size
  same : ∀ n, ¬ ch n → m' n = m n ∧ G' n = G n
  block : ∀ i, i < w.heap.size → (∀ n g l, ch n → m n = some (g, l) → l.mut = true → ¬ ownL (G n) l i) → w'.heap[i]? = w.heap[i]?
  blk : ∀ n g l, ch n → m' n = some (g, l) → l.mut = true → ∀ b, ownL (G' n) l b → w.heap.size ≤ b ∨ ∃ n0 g0 l0, ch n0 ∧ m n0 = some (g0, l0) ∧ l0.mut = true ∧ ownL (G n0) l0 b
  one : ∀ n n' g g' l l' b, ch n → ch n' → m' n = some (g, l) → m' n' = some (g', l') → l.mut = true → l'.mut = true → ownL (G' n) l b → ownL (G' n') l' b → n = n'
  gen : ∀ n g0 l0, ch n → m n = some (g0, l0) → ∃ g' l', m' n = some (g', l') ∧ g0 ≤ g' ∧ (g0 = g' → GExt (G n) (G' n) l0 l')
  oth : ∀ b o, w.heap[b]? = some o → ¬ isC w b → w'.heap[b]? = some o

theorem Chgs.ext {ch : Nat → Prop} {G' : Nat → Gh} {w' : World} (h : Chgs ch B G m w G' m' w') (hm : MRel P B G m w w0) : Ext B G m w G' m' w' := by
  refine ⟨fun f => ⟨h.size, fun b hb hS => h.block b hb.lt fun n g l _ hk hmut => hS.2.1 n g l hk hmut⟩, fun f b hb hS => ⟨hS.1, ?_, hS.2.2⟩, ?_, ⟨h.os, h.tape, h.output, h.size, fun i hi => ?_⟩, h.oth⟩
  · intro n g l hn hmut e
    by_cases hc : ch n
    · rcases h.blk n g l hc hn hmut b e with h1 | ⟨n0, g0, l0, h0, h1, h2, h3⟩
      · omega
      · exact hS.2.1 n0 _ _ h1 h2 h3
    · obtain ⟨e1, e2⟩ := h.same n hc
      rw [e1] at hn; rw [e2] at e
      exact hS.2.1 n g l hn hmut e
  · intro n g l hn
    by_cases hc : ch n
    · exact h.gen n g l hc hn
    · obtain ⟨e1, e2⟩ := h.same n hc
      exact ⟨g, l, e1.trans hn, Nat.le_refl _, fun _ => by rw [e2]; exact .refl _ _⟩
  · exact h.block i (Nat.lt_of_lt_of_le hi hm.base) fun n g l _ hk hmut e => by
      have := ((hm.loc n g l hk).own_lt hmut e).2
      omega

theorem Chgs.rel {ch : Nat → Prop} {G' : Nat → Gh} {w' : World} (h : Chgs ch B G m w G' m' w') (hm : MRel P B G m w w0) (hl : ∀ n g l, ch n → m' n = some (g, l) → LRep P B G' m' w' n l) : MRel P B G' m' w' w0 := by
  have he := h.ext hm
  refine ⟨fun hlo => (hm.low hlo).trans he.bel, Nat.le_trans hm.base h.size, ?_, ?_, ⟨?_, ?_⟩, Nat.le_trans hm.lbd h.size⟩
  · intro n g l hn
    by_cases hc : ch n
    · exact hl n g l hc hn
    · obtain ⟨e1, e2⟩ := h.same n hc
      rw [e1] at hn
      refine (hm.loc n g l hn).ext he e2 fun hmut b e => h.block b ((hm.loc n g l hn).own_lt hmut e).1 fun n0 g0 l0 hc0 hk hmut0 e' => ?_
      exact hc (hm.inj n n0 g g0 l l0 b hn hk hmut hmut0 e e' ▸ hc0)
  · have key : ∀ n n' g l g2 l2 b, ch n → ¬ ch n' → m' n = some (g, l) → m n' = some (g2, l2) → l.mut = true → l2.mut = true → ownL (G' n) l b → ownL (G n') l2 b → False := by
      intro n n' g l g2 l2 b hc hc' hn hn' hmut hmut' e e'
      rcases h.blk n g l hc hn hmut b e with h1 | ⟨n0, g0, l0, h0, h1, h2, h3⟩
      · have := ((hm.loc n' g2 l2 hn').own_lt hmut' e').1; omega
      · exact hc' (hm.inj n0 n' g0 g2 l0 l2 b h1 hn' h2 hmut' h3 e' ▸ h0)
    intro n n' g g2 l l2 b hn hn' hmut hmut' e e'
    by_cases hc : ch n <;> by_cases hc' : ch n'
    · exact h.one n n' g g2 l l2 b hc hc' hn hn' hmut hmut' e e'
    · obtain ⟨e1, e2⟩ := h.same n' hc'
      rw [e1] at hn'; rw [e2] at e'
      exact (key n n' g l g2 l2 b hc hc' hn hn' hmut hmut' e e').elim
    · obtain ⟨e1, e2⟩ := h.same n hc
      rw [e1] at hn; rw [e2] at e
      exact (key n' n g2 l2 g l b hc' hc hn' hn hmut' hmut e' e).elim
    · obtain ⟨e1, e2⟩ := h.same n hc
      obtain ⟨e3, e4⟩ := h.same n' hc'
      rw [e1] at hn; rw [e2] at e; rw [e3] at hn'; rw [e4] at e'
      exact hm.inj n n' g g2 l l2 b hn hn' hmut hmut' e e'
  · intro b hb
    obtain ⟨h1, h2⟩ := hm.frn.1 b hb
    exact ⟨Nat.lt_of_lt_of_le h1 h.size, (h.block b h1 fun n g l _ hk hmut e => hm.frn.2 n g l b hk hmut e hb).trans h2⟩
  · intro n g l b hn hmut e hb
    by_cases hc : ch n
    · rcases h.blk n g l hc hn hmut b e with h1 | ⟨n0, g0, l0, h0, h1, h2, h3⟩
      · have := (hm.frn.1 b hb).1; omega
      · exact hm.frn.2 n0 g0 l0 b h1 h2 h3 hb
    · obtain ⟨e1, e2⟩ := h.same n hc
      rw [e1] at hn; rw [e2] at e
      exact hm.frn.2 n g l b hn hmut e hb

/-- One local changes: its own block, and new ones. -/
structure Chg (B : Bs) (G : Nat → Gh) (m : Mem) (w : World) (k g' : Nat) (gh : Gh) (l' : L) (w' : World) : Prop where
  os : w'.os = w.os
  tape : w'.tape = w.tape
  output : w'.output = w.output
  size : w.heap.size ≤ w'.heap.size
  block : ∀ i, i < w.heap.size → (∀ g l, m k = some (g, l) → l.mut = true → ¬ ownL (G k) l i) → w'.heap[i]? = w.heap[i]?
  blk : l'.mut = true → ∀ b, ownL gh l' b → w.heap.size ≤ b ∨ ∃ g l, m k = some (g, l) ∧ l.mut = true ∧ ownL (G k) l b
  gen : ∀ g0 l0, m k = some (g0, l0) → g0 ≤ g' ∧ (g0 = g' → GExt (G k) gh l0 l')
  oth : ∀ b o, w.heap[b]? = some o → ¬ isC w b → w'.heap[b]? = some o

theorem Chg.s {k g' : Nat} {gh : Gh} {l' : L} {w' : World} (h : Chg B G m w k g' gh l' w') : Chgs (· = k) B G m w (setG G k gh) (set1 m k g' l') w' := by
  refine ⟨h.os, h.tape, h.output, h.size, fun n hn => ⟨set1_other m g' l' (Ne.symm hn), setG_other G gh hn⟩, fun i hi hb => h.block i hi fun g l hk => hb k g l rfl hk, ?_, ?_, ?_, h.oth⟩
  · rintro n g l rfl hn hmut b e
    rw [set1_same] at hn; cases hn
    rw [setG_same] at e
    exact (h.blk hmut b e).imp id fun ⟨g, l, a1, a2, a3⟩ => ⟨n, g, l, rfl, a1, a2, a3⟩
  · rintro n n' g g2 l l2 b rfl rfl _ _ _ _ _ _
    rfl
  · rintro n g l rfl hn
    exact ⟨g', l', set1_same .., (h.gen g l hn).1, fun e => by rw [setG_same]; exact (h.gen g l hn).2 e⟩

theorem Chg.ext {k g' : Nat} {gh : Gh} {l' : L} {w' : World} (h : Chg B G m w k g' gh l' w') (hm : MRel P B G m w w0) : Ext B G m w (setG G k gh) (set1 m k g' l') w' := h.s.ext hm

theorem Chg.rel {k g' : Nat} {gh : Gh} {l' : L} {w' : World} (h : Chg B G m w k g' gh l' w') (hm : MRel P B G m w w0) (hl : LRep P B (setG G k gh) (set1 m k g' l') w' k l') : MRel P B (setG G k gh) (set1 m k g' l') w' w0 :=
  h.s.rel hm (by
    rintro n g l rfl hn
    rw [set1_same] at hn; cases hn
    exact hl)

theorem oth_below {w w' : World} (hb : Below w.heap.size w w') : ∀ b o, w.heap[b]? = some o → ¬ isC w b → w'.heap[b]? = some o := fun b _ e _ => (hb.block b (Array.getElem?_eq_some_iff.1 e).1).trans e

/-- New memory under the local number d. -/
theorem Chg.new (d : Nat) (gh : Gh) (l' : L) {w' : World} (hb : Below w.heap.size w w') (hblk : ∀ b, ownL gh l' b → w.heap.size ≤ b) : Chg B G m w d (nx m d) gh l' w' :=
  ⟨hb.os, hb.tape, hb.output, hb.size, fun i hi _ => hb.block i hi, fun _ b e => .inl (hblk b e), fun g0 l0 e => by simp [nx, e], oth_below hb⟩

theorem nx_eq {d : Nat} (h : m' d = m d) : nx m' d = nx m d := by simp [nx, h]

/-- A local is written to no more. -/
theorem freezeG (hm : MRel P B G m w w0) {k g : Nat} {l l' : L} (hk : m k = some (g, l)) (hmut : l.mut = true) (hmut' : l'.mut = false) (hx : LExt l l') (hl : (∀ b, ownL (G k) l b → ∀ f, dS B G (set1 m k g l') f b) → Ext B G m w G (set1 m k g l') w → LRep P B G (set1 m k g l') w k l') :
    MRel P B G (set1 m k g l') w w0 ∧ Ext B G m w G (set1 m k g l') w ∧ (∀ b, ownL (G k) l b → ∀ f, dS B G (set1 m k g l') f b) := by
  have hc : Chg B G m w k g (G k) l' w := ⟨rfl, rfl, rfl, Nat.le_refl _, fun _ _ _ => rfl, fun h => (by rw [hmut'] at h; cases h), fun g0 l0 e => by
    rw [hk] at e; cases e
    exact ⟨Nat.le_refl _, fun _ => hx _⟩, fun _ _ h _ => h⟩
  have he := hc.ext hm
  have hb : ∀ b, ownL (G k) l b → ∀ f', dS B G (set1 m k g l') f' b := by
    intro b e f'
    refine ⟨⟨fun _ => ((hm.loc k _ _ hk).own_lt hmut e).2, .inl ((hm.loc k _ _ hk).own_lt hmut e).2⟩, fun n g2 l2 hn hmut2 e' => ?_, fun hT => hm.frn.2 k g l b hk hmut e (.inl hT)⟩
    rcases set1_cases hn with ⟨rfl, e1⟩ | ⟨hne, hn⟩
    · cases e1; rw [hmut'] at hmut2; cases hmut2
    · exact hne (hm.inj n k g2 g l2 _ b hn hk hmut2 hmut e' e)
  rw [setG_self] at he
  have hr := hc.rel hm (by rw [setG_self]; exact hl hb he)
  rw [setG_self] at hr
  exact ⟨hr, he, hb⟩

theorem LExt.to_fz {l : L} {f : Bool} {s : T} {xs : List s.den} (h : ∀ Gk, hdrOf Gk l = Gk.hdr) : LExt l (.fz f s xs) := fun Gk => ⟨fun _ _ _ => trivial, h Gk, fun _ _ _ _ => trivial, fun _ _ _ _ => trivial, fun _ _ _ _ _ => trivial⟩

/-- An own slice is written to no more. -/
theorem freeze1 (hm : MRel P B G m w w0) {k g : Nat} {f : Bool} {s : T} {xs : List s.den} (hk : m k = some (g, .sl f s xs)) :
    MRel P B G (set1 m k g (.fz f s xs)) w w0 ∧ Ext B G m w G (set1 m k g (.fz f s xs)) w ∧ (∀ b, ownL (G k) (.sl f s xs) b → ∀ f', dS B G (set1 m k g (.fz f s xs)) f' b) :=
  freezeG hm hk rfl rfl (.to_fz fun _ => rfl) fun hb he => by
    have hl := hm.loc k _ _ hk
    unfold LRep at hl ⊢
    exact ⟨_, rfl, repSl_of_own hl (fun b o e => hb b ⟨o, e⟩ f) fun _ _ h => he.c h⟩

theorem freezeN (hm : MRel P B G m w w0) {k g : Nat} {f : Bool} {s : T} {xss : List (List s.den)} {h : Nat} (hk : m k = some (g, .nl f s xss h none)) :
    MRel P B G (set1 m k g (.fz f (.sl s) xss)) w w0 ∧ Ext B G m w G (set1 m k g (.fz f (.sl s) xss)) w ∧ (∀ b, ownL (G k) (.nl f s xss h none) b → ∀ f', dS B G (set1 m k g (.fz f (.sl s) xss)) f' b) :=
  freezeG hm hk rfl rfl (.to_fz fun _ => rfl) fun hb he => by
    have := nl_sl (hm.loc k _ _ hk) (S := dS B G (set1 m k g (.fz f (.sl s) xss)) f) (fun b hlt hd => he.sub f b hlt hd) fun b e => hb b e f
    exact ⟨_, rfl, this⟩

/-- A variable is written to no more. -/
theorem freezeB (hm : MRel P B G m w w0) {k g : Nat} {f : Bool} {s : T} {x : s.den} (hk : m k = some (g, .box f s x)) :
    MRel P B G (set1 m k g (.fb f s x)) w w0 ∧ Ext B G m w G (set1 m k g (.fb f s x)) w := by
  obtain ⟨r1, r2, _⟩ := freezeG (l' := .fb f s x) hm hk rfl rfl (fun Gk => ⟨fun _ _ h => h, by cases s <;> rfl, fun _ _ _ h => h.elim, fun _ _ _ h => h.elim, fun _ _ _ _ h => h.elim⟩) fun hb he => by
    obtain ⟨b, cur, e, h1, h2, h3, h4, h5⟩ := hm.loc k _ _ hk
    refine ⟨b, h1, b, 0, cur.toList, rfl, hb b ⟨0, h1⟩ f, (Array.getElem?_eq_some_iff.1 h4).1, ?_, he.c h5⟩
    intro j u hj
    rw [cell_of_row w b (0 + j) cur e (0, 0) h4]
    simpa using hj
  exact ⟨r1, r2⟩

/-- An abstract value, kept: the datum is there, and stays. -/
theorem stor_spec (hk : Cok P cx) (hm : MRel P B G m w w0) (hs : Sub m' m) {t : T} {V : V} {f : Bool} {x : t.den} {u : List (Nat × Nat × L)} (h : stor cx.Γ m' t V = some (f, x, u)) {v : Value} (hv : ERep P B G m w V v) :
    MRel P B G (putLoc m u) w w0 ∧ Ext B G m w G (putLoc m u) w ∧ ∃ cs, v = mkV t cs ∧ (reps P t).c w (dS B G (putLoc m u) f) x cs := by
  unfold stor at h
  split at h
  · cases h
  · rename_i f' x' ha
    split at h
    · rename_i k g
      split at h
      · rename_i g2 f2 s2 xs2 e2
        cases h
        have e3 := hs _ _ e2
        obtain ⟨r1, r2, r3⟩ := freeze1 hm e3
        have hf : f' = f := by
          unfold asD at ha
          cases t <;> simp only at ha <;> try cases ha
          rename_i a
          unfold ownX at ha
          rw [e2] at ha
          simp only at ha
          cases hb : Nat.beq g g2 <;> rw [hb] at ha <;> simp only at ha
          · cases ha
          · split at ha
            · cases ha; rfl
            · cases ha
        subst hf
        refine ⟨r1, r2, ?_⟩
        refine asD_gen hk hm hs ha hv (r2.sub _) fun k' e' l' gg hl hmut b hb => ?_
        cases e'
        rw [e3] at hl; cases hl
        exact r3 b hb _
      · rename_i g2 f2 s2 xs2 e2
        cases h
        have e3 := hs _ _ e2
        refine ⟨hm, Ext.refl, asD_gen hk hm hs ha hv (fun _ _ h => h) fun k' e' l' gg hl hmut b hb => ?_⟩
        cases e'
        rw [e3] at hl; cases hl
        simp [L.mut] at hmut
      · rename_i g2 f2 s2 xs2 h2 e2
        cases h
        have e3 := hs _ _ e2
        obtain ⟨r1, r2, r3⟩ := freezeN hm e3
        have hf : f' = f := by
          unfold asD at ha
          cases t <;> simp only at ha <;> try cases ha
          rename_i a
          unfold ownX at ha
          rw [e2] at ha
          simp only at ha
          cases hb : Nat.beq g g2 <;> rw [hb] at ha <;> simp only at ha
          · cases ha
          · split at ha
            · cases ha; rfl
            · cases ha
        subst hf
        refine ⟨r1, r2, ?_⟩
        refine asD_gen hk hm hs ha hv (r2.sub _) fun k' e' l' gg hl hmut b hb => ?_
        cases e'
        rw [e3] at hl; cases hl
        exact r3 b hb _
      · cases h
    · cases h
    · rename_i hno hno2
      cases h
      exact ⟨hm, Ext.refl, asD_gen hk hm hs ha hv (fun _ _ h => h) fun k' e' => by
        cases V <;> simp only [V.loc?] at e' <;> try cases e'
        · exact absurd rfl (hno _ _)
        · exact absurd rfl (hno2 _ _ _ _)⟩

end

end Go.Tk
