/- The engine, part E: what a call asks and gives; an abstract value seen as a datum; new and frozen memory. No conditions. -/
import Derived.Test.YthjkkjnnkkekeaaEngD
set_option linter.unusedSimpArgs false
set_option linter.unusedVariables false
namespace Go.Tk
open Go Go.RowKit

/-- What a call asks and gives: at the data x that its arguments are, under 'pre', it returns the data F x, in memory of its own (or, where 'al' is said, of the arguments'); all that was there is as it was. -/
def ConOK (P : Program) (f : FuncId) (c : Con) : Prop := ∀ (w : World) (S : Nat → Prop) (x : c.A.den) (vs : List Value), (reps P c.A).v w S x vs [] → c.pre x →
  Calls P f vs.toArray w fun e w' => ∃ rs bs, e = .returned (mkRes rs) ∧ (reps P c.R).v w' (fun b => (w.heap.size ≤ b ∨ (c.al = true ∧ S b)) ∧ b ∉ bs) (c.F x) rs bs ∧ bs.Nodup ∧ (∀ b ∈ bs, w.heap.size ≤ b) ∧ Below w.heap.size w w'

/-- What a function gives that multiplies two numbers of 64 bits. -/
def MulOK (P : Program) (f : FuncId) : Prop := ∀ (x y : Nat) (w : World), x < 18446744073709551616 → y < 18446744073709551616 →
  Calls P f #[.int .u64 x, .int .u64 y] w fun e w' => e = .returned (.tuple #[.int .u64 ((x * y / 18446744073709551616 : Nat) : Int), .int .u64 ((x * y % 18446744073709551616 : Nat) : Int)]) ∧ w' = w

structure XOK (P : Program) (X : Xtr) : Prop where
  U : ∀ i, inN X.U i = true → P.underlying i = some (.int .u64)
  mul : ∀ f, inN X.mul f = true → FunOK P f ∧ MulOK P f

structure Cok (P : Program) (cx : Cx) : Prop where
  fn : ∀ f c, lk cx.Γ f = some c → FunOK P f
  Γ : ∀ f c, lk cx.Γ f = some c → ConOK P f c
  Θ : ∀ i t, lk cx.Θ i = some t → (tys P t).ty i
  X : XOK P cx.X

def Sub (m' m : Mem) : Prop := ∀ k x, m' k = some x → m k = some x

theorem v_app {P : Program} {w : World} {S : Nat → Prop} : ∀ (a b : T) (x : a.den) (y : b.den) (vs us : List Value), (reps P a).v w S x vs [] → (reps P b).v w S y us [] → (reps P (a.app b)).v w S (appX a b x y) (vs ++ us) []
  | .nil, _, _, _, _, _, ⟨e, _⟩, hb => by subst e; exact hb
  | .cons a c, b, x, y, _, us, ⟨v, vs', b1, b2, e, e2, h1, h2⟩, hb => by
    obtain ⟨rfl, rfl⟩ := List.append_eq_nil_iff.1 e2.symm
    subst e
    exact ⟨v, vs' ++ us, [], [], rfl, rfl, h1, v_app c b x.2 y vs' us h2 hb⟩
  | .int, _, _, _, _, _, h, _ => h.elim
  | .bool, _, _, _, _, _, h, _ => h.elim
  | .sl _, _, _, _, _, _, h, _ => h.elim
  | .osl _, _, _, _, _, _, h, _ => h.elim
  | .ref _, _, _, _, _, _, h, _ => h.elim
  | .arr _ _, _, _, _, _, _, h, _ => h.elim
  | .fn _ _, _, _, _, _, _, h, _ => h.elim

/-- A result of a function that gives new memory, under any wider set of blocks. -/
theorem o_mono {P : Program} (t : T) {w : World} {S S' : Nat → Prop} {x : t.den} {v : Value} {bs : List Nat} (h : (reps P t).o w S x v bs) (hs : ∀ b, S b → S' b) : (reps P t).o w S' x v bs := by
  cases t
  case osl a =>
    obtain ⟨ob, h, e⟩ := h
    exact ⟨ob, h.keep (Keep.refl _ _) (fun _ _ h => h) fun _ _ h' => c_keep a h' (Keep.refl _ _) (fun b _ h => hs b h), e⟩
  case int => obtain ⟨e, cs, e2, h⟩ := h; exact ⟨e, cs, e2, c_keep (P := P) .int h (Keep.refl S w) (fun b _ h => hs b h)⟩
  case bool => obtain ⟨e, cs, e2, h⟩ := h; exact ⟨e, cs, e2, c_keep (P := P) .bool h (Keep.refl S w) (fun b _ h => hs b h)⟩
  case nil => obtain ⟨e, cs, e2, h⟩ := h; exact ⟨e, cs, e2, c_keep (P := P) (x := x) .nil h (Keep.refl S w) (fun b _ h => hs b h)⟩
  case cons a b => obtain ⟨e, cs, e2, h⟩ := h; exact ⟨e, cs, e2, c_keep (.cons a b) h (Keep.refl S w) (fun b _ h => hs b h)⟩
  case sl a => obtain ⟨e, cs, e2, h⟩ := h; exact ⟨e, cs, e2, c_keep (.sl a) h (Keep.refl S w) (fun b _ h => hs b h)⟩
  case ref a => obtain ⟨e, cs, e2, h⟩ := h; exact ⟨e, cs, e2, c_keep (.ref a) h (Keep.refl S w) (fun b _ h => hs b h)⟩
  case arr n a => obtain ⟨e, cs, e2, h⟩ := h; exact ⟨e, cs, e2, c_keep (.arr n a) h (Keep.refl S w) (fun b _ h => hs b h)⟩
  case fn a r => obtain ⟨e, cs, e2, h⟩ := h; exact ⟨e, cs, e2, c_keep (.fn a r) h (Keep.refl S w) (fun b _ h => hs b h)⟩

theorem v_mono {P : Program} : ∀ (t : T) {w : World} {S S' : Nat → Prop} {x : t.den} {vs : List Value} {bs : List Nat}, (reps P t).v w S x vs bs → (∀ b, S b → S' b) → (reps P t).v w S' x vs bs
  | .nil, _, _, _, _, _, _, h, _ => h
  | .cons a b, _, _, _, _, _, _, ⟨v, vs', b1, b2, e, e2, h1, h2⟩, hs => ⟨v, vs', b1, b2, e, e2, o_mono a h1 hs, v_mono b h2 hs⟩
  | .int, _, _, _, _, _, _, h, _ => h.elim
  | .bool, _, _, _, _, _, _, h, _ => h.elim
  | .sl _, _, _, _, _, _, _, h, _ => h.elim
  | .osl _, _, _, _, _, _, _, h, _ => h.elim
  | .ref _, _, _, _, _, _, _, h, _ => h.elim
  | .arr _ _, _, _, _, _, _, _, h, _ => h.elim
  | .fn _ _, _, _, _, _, _, _, h, _ => h.elim

theorem c_mono {P : Program} (t : T) {w : World} {S S' : Nat → Prop} {x : t.den} {cs : List Value} (h : (reps P t).c w S x cs) (hs : ∀ b, b < w.heap.size → S b → S' b) : (reps P t).c w S' x cs := c_keep t h (Keep.refl S w) hs

theorem repSl_of_own {α : Type} {R R' : α → List Value → Prop} {size : Nat} {w : World} {S S' : Nat → Prop} {xs : List α} {v : Value} {ob : Option (Nat × Nat)} (h : repOwn R size w S xs v ob) (hs : ∀ b o, ob = some (b, o) → S' b) (hR : ∀ x cs, R x cs → R' x cs) : repSl R' w S' xs v := by
  rcases h with ⟨rfl, rfl, rfl⟩ | ⟨b, off, cap, cur, e, h1, h2, h3, h4, h5, h6, h7, h8⟩
  · exact ⟨none, 0, rfl, Nat.le_refl _, Nat.zero_le _, .inl rfl⟩
  · refine ⟨_, cap, h2, h5, h6, .inr ⟨b, off, _, rfl, hs b off h1, (Array.getElem?_eq_some_iff.1 h4).1, ?_, repL_mono hR _ _ h8⟩⟩
    intro j v hv
    rw [cell_of_row w b (off + j) cur e (0, 0) h4]
    rw [List.getElem?_take] at hv
    split at hv
    · simpa using hv
    · cases hv

section
variable {P : Program} {B : Bs} {G : Nat → Gh} {m m' : Mem} {w w0 : World} {cx : Cx}

/-- A closure of ours is a function of data. -/
theorem fnOK_of (hk : Cok P cx) {g : FuncId} {con : Con} (hg : lk cx.Γ g = some con) (hal : con.al = false) {a r ct : T} (hA : a.app ct = con.A) (hR : con.R = r) (z : ct.den) (caps : List Value) {S0 S : Nat → Prop} (hc : (reps P ct).v w S0 z caps []) (hS : ct = .nil ∨ ∀ b, b < w.heap.size → S0 b → S b) :
    fnOK P (reps P a) (reps P r) g caps w S (fun x => con.pre (hA ▸ appX a ct x z), fun x => hR ▸ con.F (hA ▸ appX a ct x z)) := by
  have hcon := hk.Γ g con hg
  obtain ⟨A, R, pre, F, al⟩ := con
  simp only at hal hA hR
  subst hal; subst hA; subst hR
  intro w' hkeep S' x vs hx hpre
  have hc' : (reps P ct).v w' (fun _ => True) z caps [] := by
    rcases hS with rfl | hS
    · exact hc
    · exact v_keep ct (S' := fun _ => True) hc ⟨hkeep.1, fun b hb h => hkeep.2 b hb (hS b hb h)⟩ (fun _ _ _ => trivial)
  have hx' : (reps P a).v w' (fun _ => True) x vs [] := v_mono a hx fun _ _ => trivial
  refine (hcon w' (fun _ => True) (appX a ct x z) (vs ++ caps) (v_app a ct x z vs caps hx' hc') hpre).mono ?_
  rintro e w'' ⟨rs, bs, he, h1, h2, h3, h4⟩
  exact ⟨rs, bs, he, v_mono _ h1 fun b ⟨hb, hn⟩ => ⟨hb.resolve_right (fun h => by simp at h), hn⟩, h2, h3, h4⟩

theorem castT_eq {a b : T} (h : a.beq b = true) (x : a.den) : castT h x = (T.beq_eq h) ▸ x := rfl

theorem c_cast {a b : T} (h : a.beq b = true) {x : a.den} {S : Nat → Prop} {cs : List Value} (hc : (reps P a).c w S x cs) : (reps P b).c w S (castT h x) cs := by
  obtain rfl := T.beq_eq h
  exact hc

theorem mkV_beq {a b : T} (h : a.beq b = true) (cs : List Value) : mkV a cs = mkV b cs := by rw [T.beq_eq h]

theorem ownX_spec (hm : MRel P B G m w w0) (hs : Sub m' m) {k g : Nat} {f : Bool} {s : T} {xs : List s.den} (h : ownX m' k g = some (f, ⟨s, xs⟩)) {v : Value} (hv : ERep P B G m w (.own k g) v) {S : Nat → Prop}
    (h1 : ∀ b, b < w.heap.size → dS B G m f b → S b) (h2 : ∀ l g, m k = some (g, l) → l.mut = true → ∀ b o, (G k).blk = some (b, o) → S b) : repSl ((reps P s).c w S) w S xs v := by
  obtain ⟨g', l, hk, hle, hv⟩ := hv
  unfold ownX at h
  have hR : ∀ x cs, (reps P s).c w (dS B G m f) x cs → (reps P s).c w S x cs := fun x cs hc => c_mono s hc h1
  split at h
  · rename_i g2 f' s' xs' e
    split at h <;> try cases h
    rename_i hg
    have := hs _ _ e
    rw [hk] at this; cases this
    rw [hv (Nat.eq_of_beq_eq_true hg)]
    exact repSl_of_own (hm.loc k _ _ hk) (fun b o hb => h2 _ _ hk rfl b o hb) hR
  · rename_i g2 f' s' xs' e
    split at h <;> try cases h
    rename_i hg
    have := hs _ _ e
    rw [hk] at this; cases this
    rw [hv (Nat.eq_of_beq_eq_true hg)]
    obtain ⟨v', e', hr⟩ := hm.loc k _ _ hk
    cases e'
    exact hr.keep (Keep.refl (dS B G m f) w) h1 hR
  · rename_i g2 f' n s' xs' e
    split at h <;> try cases h
    rename_i hg
    rw [Bool.and_eq_true] at hg
    have := hs _ _ e
    rw [hk] at this; cases this
    rw [hv (Nat.eq_of_beq_eq_true hg.1)]
    obtain ⟨b, cur, e, a1, a2, a3, a4, a5, a6⟩ := hm.loc k _ _ hk
    have hle := Nat.le_of_ble_eq_true hg.2
    refine ⟨some ⟨b, 0, none⟩, n, by simp only [hdrOf, a2]; rw [a5], by omega, by omega, .inr ⟨b, 0, cur.toList, rfl, h2 _ _ hk rfl b 0 a1, (Array.getElem?_eq_some_iff.1 a4).1, ?_, repL_mono hR _ _ a6⟩⟩
    intro j v hv
    rw [cell_of_row w b (0 + j) cur e (0, 0) a4]
    simpa using hv
  · cases h

/-- An abstract value seen as a datum: the datum is there. -/
theorem asD_gen (hk : Cok P cx) (hm : MRel P B G m w w0) (hs : Sub m' m) {t : T} {V : V} {f : Bool} {x : t.den} (h : asD cx.Γ m' t V = some (f, x)) {v : Value} (hv : ERep P B G m w V v) {S : Nat → Prop}
    (h1 : ∀ b, b < w.heap.size → dS B G m f b → S b) (h2 : ∀ k g, V = .own k g → ∀ l g, m k = some (g, l) → l.mut = true → ∀ b o, (G k).blk = some (b, o) → S b) : ∃ cs, v = mkV t cs ∧ (reps P t).c w S x cs := by
  unfold asD at h
  split at h
  · cases h; obtain ⟨cs, e, hc⟩ := hv; exact ⟨cs, e, c_mono .int hc h1⟩
  · cases h; obtain ⟨cs, e, hc⟩ := hv; exact ⟨cs, e, c_mono .bool hc h1⟩
  · split at h
    · rename_i a k g _ f' s xs e
      split at h
      · rename_i hb
        cases h
        obtain rfl := T.beq_eq hb
        exact ⟨[v], rfl, v, rfl, ownX_spec hm hs e hv h1 (h2 k g rfl)⟩
      · cases h
    · cases h
  · cases h
    have hv : v = .slice none 0 0 := hv
    subst hv
    exact ⟨[.slice none 0 0], rfl, _, rfl, none, 0, rfl, Nat.le_refl _, Nat.zero_le _, .inl rfl⟩
  · rename_i a r g ct cz
    obtain ⟨caps, e, hc⟩ := hv
    split at h
    · rename_i con hg
      split at h
      · rename_i hal
        split at h
        · rename_i hA
          split at h
          · rename_i hR
            simp only [Option.some.injEq, Prod.mk.injEq] at h
            obtain ⟨hf, rfl⟩ := h
            refine ⟨[v], rfl, .inr ⟨g, caps, by rw [e], hk.fn g con hg, ?_⟩⟩
            refine fnOK_of hk hg hal (T.beq_eq hA) (T.beq_eq hR) cz caps hc ?_
            cases ct with
            | nil => exact .inl rfl
            | _ => subst hf; exact .inr h1
          · cases h
        · cases h
      · cases h
    · cases h
  · split at h
    · rename_i hb
      cases h
      obtain rfl := T.beq_eq hb
      obtain ⟨b, o, cs, rfl, q1, q2, q3, q4⟩ := hv
      exact ⟨[.pointer (some ⟨b, o, none⟩)], rfl, b, o, cs, rfl, h1 b q2 q1, q2, q3, c_mono _ q4 h1⟩
    · cases h
  · split at h
    · rename_i hb
      cases h
      obtain ⟨cs, e, hc⟩ := hv
      exact ⟨cs, by rw [e, mkV_beq hb], c_cast hb (c_mono _ hc h1)⟩
    · cases h
  · cases h

theorem asD_all (hk : Cok P cx) (hm : MRel P B G m w w0) (hs : Sub m' m) {t : T} {V : V} {f : Bool} {x : t.den} (h : asD cx.Γ m' t V = some (f, x)) {v : Value} (hv : ERep P B G m w V v) : ∃ cs, v = mkV t cs ∧ (reps P t).c w (fun _ => True) x cs :=
  asD_gen hk hm hs h hv (fun _ _ _ => trivial) (fun _ _ _ _ _ _ _ _ _ _ => trivial)

theorem set1_same (m : Mem) (k g : Nat) (l : L) : set1 m k g l k = some (g, l) := by simp [set1]
theorem set1_other (m : Mem) {k n : Nat} (g : Nat) (l : L) (h : k ≠ n) : set1 m k g l n = m n := by
  unfold set1
  split
  · rename_i h'; exact absurd (Nat.eq_of_beq_eq_true h') h
  · rfl

theorem set1_cases {m : Mem} {k g n : Nat} {l : L} {x : Nat × L} (h : set1 m k g l n = some x) : (n = k ∧ x = (g, l)) ∨ (n ≠ k ∧ m n = some x) := by
  by_cases e : k = n
  · subst e; rw [set1_same] at h; cases h; exact .inl ⟨rfl, rfl⟩
  · rw [set1_other m g l e] at h; exact .inr ⟨Ne.symm e, h⟩

def setG (G : Nat → Gh) (k : Nat) (gh : Gh) : Nat → Gh := fun n => if n = k then gh else G n

theorem setG_same (G : Nat → Gh) (k : Nat) (gh : Gh) : setG G k gh k = gh := by simp [setG]
theorem setG_other (G : Nat → Gh) {k n : Nat} (gh : Gh) (h : n ≠ k) : setG G k gh n = G n := by simp [setG, h]
theorem setG_self (G : Nat → Gh) (k : Nat) : setG G k (G k) = G := by funext n; unfold setG; split <;> simp_all

theorem LRep.blk_lt {k : Nat} {l : L} (hl : LRep P B G m w k l) (hmut : l.mut = true) {b o : Nat} (e : (G k).blk = some (b, o)) : b < w.heap.size ∧ B.n ≤ b := by
  cases l with
  | box f t x =>
    obtain ⟨b', cur, e', h1, h2, h3, h4, h5⟩ := hl
    rw [h1] at e; cases e
    exact ⟨(Array.getElem?_eq_some_iff.1 h4).1, h3⟩
  | sl f t xs =>
    unfold LRep at hl
    rcases hl with ⟨_, _, hn⟩ | ⟨b', off, cap, cur, e', h1, h2, h3, h4, h5⟩
    · rw [hn] at e; cases e
    · rw [h1] at e; cases e
      exact ⟨(Array.getElem?_eq_some_iff.1 h4).1, h3⟩
  | fz f t xs => simp [L.mut] at hmut
  | fb f t x => simp [L.mut] at hmut

/-- One local changes: its own block, and new ones. -/
structure Chg (B : Bs) (G : Nat → Gh) (m : Mem) (w : World) (k g' : Nat) (gh : Gh) (l' : L) (w' : World) : Prop where
  os : w'.os = w.os
  tape : w'.tape = w.tape
  output : w'.output = w.output
  size : w.heap.size ≤ w'.heap.size
  block : ∀ i, i < w.heap.size → (∀ g l, m k = some (g, l) → l.mut = true → ∀ o, (G k).blk ≠ some (i, o)) → w'.heap[i]? = w.heap[i]?
  blk : l'.mut = true → ∀ b o, gh.blk = some (b, o) → w.heap.size ≤ b ∨ ∃ g l o', m k = some (g, l) ∧ l.mut = true ∧ (G k).blk = some (b, o')
  gen : ∀ g0 l0, m k = some (g0, l0) → g0 ≤ g' ∧ (g0 = g' → gh = G k ∧ LExt l0 l')

theorem Chg.ext {k g' : Nat} {gh : Gh} {l' : L} {w' : World} (h : Chg B G m w k g' gh l' w') (hm : MRel P B G m w w0) : Ext B G m w (setG G k gh) (set1 m k g' l') w' := by
  refine ⟨fun f => ⟨h.size, fun b hb hS => h.block b hb fun g l hk hmut o => hS.2 k g l hk hmut o⟩, fun f b hb hS => ⟨hS.1, ?_⟩, ?_⟩
  · intro n g l hn hmut o
    rcases set1_cases hn with ⟨rfl, e⟩ | ⟨hne, hn⟩
    · cases e
      rw [setG_same]
      intro e
      rcases h.blk hmut b o e with h1 | ⟨g0, l0, o', h1, h2, h3⟩
      · omega
      · exact hS.2 _ _ _ h1 h2 _ h3
    · rw [setG_other G gh hne]
      exact hS.2 n g l hn hmut o
  · intro n g l hn
    by_cases e : n = k
    · subst e
      obtain ⟨a1, a2⟩ := h.gen g l hn
      exact ⟨g', l', set1_same .., a1, fun e => ⟨by rw [setG_same]; exact (a2 e).1, (a2 e).2⟩⟩
    · exact ⟨g, l, by rw [set1_other m g' l' (Ne.symm e)]; exact hn, Nat.le_refl _, fun _ => ⟨setG_other G gh e, .refl _⟩⟩

theorem Chg.rel {k g' : Nat} {gh : Gh} {l' : L} {w' : World} (h : Chg B G m w k g' gh l' w') (hm : MRel P B G m w w0) (hl : LRep P B (setG G k gh) (set1 m k g' l') w' k l') : MRel P B (setG G k gh) (set1 m k g' l') w' w0 := by
  have he := h.ext hm
  have own : ∀ i, i < B.n → w'.heap[i]? = w.heap[i]? := fun i hi => h.block i (Nat.lt_of_lt_of_le hi hm.base) fun g l hk hmut o e => by
    have := ((hm.loc k g l hk).blk_lt hmut e).2
    omega
  refine ⟨⟨h.os.trans hm.low.os, h.tape.trans hm.low.tape, h.output.trans hm.low.output, Nat.le_trans hm.low.size h.size, fun i hi => (own i hi).trans (hm.low.block i hi)⟩, Nat.le_trans hm.base h.size, ?_, ?_⟩
  · intro n g l hn
    rcases set1_cases hn with ⟨rfl, e⟩ | ⟨hne, hn⟩
    · cases e; exact hl
    · refine (hm.loc n g l hn).ext he (setG_other G gh hne) fun hmut b o e => h.block b ((hm.loc n g l hn).blk_lt hmut e).1 fun g0 l0 hk hmut0 o' e' => ?_
      exact hne (hm.inj n k g g0 l l0 b o o' hn hk hmut hmut0 e e')
  · have key : ∀ n g l b o o', n ≠ k → m n = some (g, l) → l.mut = true → l'.mut = true → (G n).blk = some (b, o) → gh.blk = some (b, o') → False := by
      intro n g l b o o' hne hn hmut hmut' e e'
      rcases h.blk hmut' b o' e' with h1 | ⟨g0, l0, o2, h1, h2, h3⟩
      · have := ((hm.loc n g l hn).blk_lt hmut e).1; omega
      · exact hne (hm.inj n k g g0 l l0 b o o2 hn h1 hmut h2 e h3)
    intro n n' g g2 l l2 b o o' hn hn' hmut hmut' e e'
    rcases set1_cases hn with ⟨q1, e1⟩ | ⟨hne, hn1⟩ <;> rcases set1_cases hn' with ⟨q2, e2⟩ | ⟨hne', hn2⟩
    · rw [q1, q2]
    · cases e1
      rw [q1, setG_same] at e; rw [setG_other G gh hne'] at e'
      exact (key n' g2 l2 b o' o hne' hn2 hmut' hmut e' e).elim
    · cases e2
      rw [q2, setG_same] at e'; rw [setG_other G gh hne] at e
      exact (key n g l b o o' hne hn1 hmut hmut' e e').elim
    · rw [setG_other G gh hne] at e; rw [setG_other G gh hne'] at e'
      exact hm.inj n n' g g2 l l2 b o o' hn1 hn2 hmut hmut' e e'

/-- New memory under the local number d. -/
theorem Chg.new (d : Nat) (gh : Gh) (l' : L) {w' : World} (hb : Below w.heap.size w w') (hblk : ∀ b o, gh.blk = some (b, o) → w.heap.size ≤ b) : Chg B G m w d (nx m d) gh l' w' :=
  ⟨hb.os, hb.tape, hb.output, hb.size, fun i hi _ => hb.block i hi, fun _ b o e => .inl (hblk b o e), fun g0 l0 e => by simp [nx, e]⟩

theorem nx_eq {d : Nat} (h : m' d = m d) : nx m' d = nx m d := by simp [nx, h]

/-- An own slice is written to no more. -/
theorem freeze1 (hm : MRel P B G m w w0) {k g : Nat} {f : Bool} {s : T} {xs : List s.den} (hk : m k = some (g, .sl f s xs)) :
    MRel P B G (set1 m k g (.fz f s xs)) w w0 ∧ Ext B G m w G (set1 m k g (.fz f s xs)) w ∧ (∀ b o, (G k).blk = some (b, o) → ∀ f, dS B G (set1 m k g (.fz f s xs)) f b) := by
  have hc : Chg B G m w k g (G k) (.fz f s xs) w := ⟨rfl, rfl, rfl, Nat.le_refl _, fun _ _ _ => rfl, fun h => by simp [L.mut] at h, fun g0 l0 e => by
    rw [hk] at e; cases e
    exact ⟨Nat.le_refl _, fun _ => ⟨rfl, fun _ _ _ _ => trivial, fun _ => rfl, fun _ _ _ _ _ => trivial⟩⟩⟩
  have he := hc.ext hm
  have hb : ∀ b o, (G k).blk = some (b, o) → ∀ f', dS B (setG G k (G k)) (set1 m k g (.fz f s xs)) f' b := by
    intro b o e f'
    refine ⟨⟨fun _ => ((hm.loc k _ _ hk).blk_lt rfl e).2, .inl ((hm.loc k _ _ hk).blk_lt rfl e).2⟩, fun n g2 l2 hn hmut o' e' => ?_⟩
    rcases set1_cases hn with ⟨rfl, e1⟩ | ⟨hne, hn⟩
    · cases e1; simp [L.mut] at hmut
    · rw [setG_self] at e'
      exact hne (hm.inj n k g2 g l2 _ b o' o hn hk hmut rfl e' e)
  have hr := hc.rel hm (by
    have hl := hm.loc k _ _ hk
    unfold LRep at hl ⊢
    rw [setG_same]
    exact ⟨_, rfl, repSl_of_own hl (fun b o e => hb b o e f) fun _ _ h => he.c h⟩)
  rw [setG_self] at he hb hr
  exact ⟨hr, he, fun b o e f' => by
    refine ⟨⟨fun _ => ((hm.loc k _ _ hk).blk_lt rfl e).2, .inl ((hm.loc k _ _ hk).blk_lt rfl e).2⟩, fun n g2 l2 hn hmut o' e' => ?_⟩
    rcases set1_cases hn with ⟨rfl, e1⟩ | ⟨hne, hn⟩
    · cases e1; simp [L.mut] at hmut
    · exact hne (hm.inj n k g2 g l2 _ b o' o hn hk hmut rfl e' e)⟩

/-- A variable is written to no more. -/
theorem freezeB (hm : MRel P B G m w w0) {k g : Nat} {f : Bool} {s : T} {x : s.den} (hk : m k = some (g, .box f s x)) :
    MRel P B G (set1 m k g (.fb f s x)) w w0 ∧ Ext B G m w G (set1 m k g (.fb f s x)) w := by
  have hc : Chg B G m w k g (G k) (.fb f s x) w := ⟨rfl, rfl, rfl, Nat.le_refl _, fun _ _ _ => rfl, fun h => by simp [L.mut] at h, fun g0 l0 e => by
    rw [hk] at e; cases e
    exact ⟨Nat.le_refl _, fun _ => ⟨rfl, fun _ _ _ h => h, fun _ => by cases s <;> rfl, fun _ _ _ _ h => h.elim⟩⟩⟩
  have he := hc.ext hm
  have hr := hc.rel hm (by
    obtain ⟨b, cur, e, h1, h2, h3, h4, h5⟩ := hm.loc k _ _ hk
    rw [setG_self]
    refine ⟨b, h1, b, 0, cur.toList, rfl, ?_, (Array.getElem?_eq_some_iff.1 h4).1, ?_, ?_⟩
    · refine ⟨⟨fun _ => h3, .inl h3⟩, fun n g2 l2 hn hmut o' e' => ?_⟩
      rcases set1_cases hn with ⟨rfl, e1⟩ | ⟨hne, hn⟩
      · cases e1; simp [L.mut] at hmut
      · exact hne (hm.inj n k g2 g l2 _ b o' 0 hn hk hmut rfl e' h1)
    · intro j u hj
      rw [cell_of_row w b (0 + j) cur e (0, 0) h4]
      simpa using hj
    · rw [setG_self] at he
      exact he.c h5)
  rw [setG_self] at he hr
  exact ⟨hr, he⟩

/-- An abstract value, kept: the datum is there, and stays. -/
theorem stor_spec (hk : Cok P cx) (hm : MRel P B G m w w0) (hs : Sub m' m) {t : T} {V : V} {f : Bool} {x : t.den} {u : List (Nat × Nat × L)} (h : stor cx.Γ m' t V = some (f, x, u)) {v : Value} (hv : ERep P B G m w V v) :
    MRel P B G (putLoc m u) w w0 ∧ Ext B G m w G (putLoc m u) w ∧ ∃ cs, v = mkV t cs ∧ (reps P t).c w (dS B G (putLoc m u) f) x cs := by
  unfold stor at h
  split at h
  · cases h
  · rename_i f' x' ha
    split at h
    · rename_i k g
      split at h
      · rename_i g2 f2 s2 xs2 e2
        cases h
        have e3 := hs _ _ e2
        obtain ⟨r1, r2, r3⟩ := freeze1 hm e3
        have hf : f' = f := by
          unfold asD at ha
          cases t <;> simp only at ha <;> try cases ha
          rename_i a
          unfold ownX at ha
          rw [e2] at ha
          simp only at ha
          cases hb : Nat.beq g g2 <;> rw [hb] at ha <;> simp only at ha
          · cases ha
          · split at ha
            · cases ha; rfl
            · cases ha
        subst hf
        refine ⟨r1, r2, ?_⟩
        refine asD_gen hk hm hs ha hv (r2.sub _) fun k' g' e' l' gg hl hmut b o hb => ?_
        cases e'
        exact r3 b o hb _
      · rename_i g2 f2 s2 xs2 e2
        cases h
        have e3 := hs _ _ e2
        refine ⟨hm, Ext.refl, asD_gen hk hm hs ha hv (fun _ _ h => h) fun k' g' e' l' gg hl hmut b o hb => ?_⟩
        cases e'
        rw [e3] at hl; cases hl
        simp [L.mut] at hmut
      · cases h
    · rename_i hno
      cases h
      exact ⟨hm, Ext.refl, asD_gen hk hm hs ha hv (fun _ _ h => h) fun k' g' e' => absurd e' (hno k' g')⟩

end

end Go.Tk
