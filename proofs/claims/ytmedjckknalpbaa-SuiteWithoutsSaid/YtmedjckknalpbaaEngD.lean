/- The engine, part D: what abstract memory says of a world; the program's types. No conditions. -/
import Derived.Test.YtmedjckknalpbaaEngC
set_option linter.unusedSimpArgs false
set_option linter.unusedVariables false
namespace Go.Tk
open Go Go.RowKit

/-- The blocks of the call's own begin at n; S: the blocks in which its arguments lie.
fo: blocks of others, that change; kb: blocks that no one changes (tv: what lies in both); lo: what was there is as it was; kv: temporaries that are written to no more; ro: the round that the frame is of; j, l: in an iterator, who ranges over it; loc: what it hands over. -/
structure Bs where
  n : Nat
  S : Nat → Prop
  fo : Nat → Prop := fun _ => False
  kb : Nat → Prop := fun _ => False
  tv : Nat → Option Obj := fun _ => none
  lo : Bool := true
  kv : Nat → Option Value := fun _ => none
  ro : Option Nat := none
  j : Option JT := none
  l : Nat := 0
  ys : (Σ A : T, List A.den) := ⟨.nil, []⟩
  lb : Nat := 0

structure Gh where
  hdr : Value
  blk : Option (Nat × Nat)
  ih : Nat → Value
  ib : Nat → Option (Nat × Nat)
  ex : Nat → Prop
  hz : Nat → Prop

def gh (v : Value) (b : Option (Nat × Nat)) : Gh := ⟨v, b, fun _ => undef, fun _ => none, fun _ => False, fun _ => False⟩

/-- The blocks that are a local's own. -/
def ownL (g : Gh) : L → Nat → Prop
  | .nl _ _ _ _ _, b => (∃ o, g.blk = some (b, o)) ∨ ∃ n o, g.ib n = some (b, o)
  | .it _ _ _, b => g.ex b
  | .itx, b => g.ex b
  | _, b => ∃ o, g.blk = some (b, o)

section
variable (P : Program) (B : Bs) (G : Nat → Gh) (m : Mem) (w : World)

/-- The blocks in which data may lie: none that is still written to; and, if the Bool is true, of the call's own. -/
def dS (f : Bool) (b : Nat) : Prop := ((f = true → B.n ≤ b) ∧ (B.n ≤ b ∨ B.S b)) ∧ (∀ k g l, m k = some (g, l) → l.mut = true → ¬ ownL (G k) l b) ∧ ¬ B.fo b

def LRep (k : Nat) : L → Prop
  | .box f t x => ∃ b cur e, (G k).blk = some (b, 0) ∧ (G k).hdr = .pointer (some ⟨b, 0, none⟩) ∧ B.n ≤ b ∧ w.heap[b]? = some (.cells cur e (0, 0)) ∧ (reps P t).c w (dS B G m f) x cur.toList
  | .sl f t xs => repOwn ((reps P t).c w (dS B G m f)) t.csize w (fun b => B.n ≤ b) xs (G k).hdr (G k).blk
  | .fz f t xs => (reps P (.sl t)).c w (dS B G m f) xs [(G k).hdr]
  | .fb f t x => ∃ b, (G k).blk = some (b, 0) ∧ (reps P (.ref t)).c w (dS B G m f) x [.pointer (some ⟨b, 0, none⟩)]
  | .nl f t xss _ hole => ∃ vs : List Value, repOwn (fun v cs => cs = [v]) 1 w (fun b => B.n ≤ b) vs (G k).hdr (G k).blk ∧ vs.length = xss.length ∧ (∀ n v, vs[n]? = some v → v = (G k).ih n ∨ hole = some n) ∧
      (∀ n xs, xss[n]? = some xs → hole ≠ some n → repOwn ((reps P t).c w (dS B G m f)) t.csize w (fun b => B.n ≤ b) xs ((G k).ih n) ((G k).ib n)) ∧ (∀ n, xss.length ≤ n ∨ hole = some n → (G k).ib n = none) ∧
      (∀ n n' b o o', (G k).ib n = some (b, o) → (G k).ib n' = some (b, o') → n = n') ∧ ∀ n b o o', (G k).ib n = some (b, o) → (G k).blk ≠ some (b, o')
  | .mv => True
  | .it A ys i => k = itK ∧ B.ys = ⟨A, ys⟩ ∧ (∀ b, (G k).ex b → B.n ≤ b ∧ b < w.heap.size) ∧ (∀ b, (G k).hz b → b < w.heap.size ∧ B.n ≤ b ∧ dS B G m false b) ∧ ∃ j, B.j = some j ∧ j.J i (fun b => B.n ≤ b ∧ ¬ (G k).ex b ∧ ¬ (G k).hz b) (G k).hz w
  | .itx => k = itK ∧ (∀ b, (G k).ex b → B.n ≤ b ∧ b < w.heap.size) ∧ (∀ b, (G k).hz b → b < w.heap.size ∧ B.n ≤ b ∧ dS B G m false b) ∧ ∃ j, B.j = some j ∧ j.Jx (fun b => B.n ≤ b ∧ ¬ (G k).ex b ∧ ¬ (G k).hz b) (G k).hz w
  | .rg _ _ _ _ => True

structure MRel (w0 : World) : Prop where
  low : B.lo = true → Below B.n w0 w
  base : B.n ≤ w.heap.size
  loc : ∀ k g l, m k = some (g, l) → LRep P B G m w k l
  inj : ∀ k k' g g' l l' b, m k = some (g, l) → m k' = some (g', l') → l.mut = true → l'.mut = true → ownL (G k) l b → ownL (G k') l' b → k = k'
  frn : (∀ b, B.fo b ∨ B.kb b → b < w.heap.size ∧ w.heap[b]? = B.tv b) ∧ ∀ k g l b, m k = some (g, l) → l.mut = true → ownL (G k) l b → ¬ (B.fo b ∨ B.kb b)
  lbd : B.lb ≤ w.heap.size

def hdrOf (Gk : Gh) : L → Value
  | .box _ (.arr n _) _ => match Gk.hdr with
    | .pointer a => .slice a n n
    | v => v
  | .fb _ (.arr n _) _ => match Gk.hdr with
    | .pointer a => .slice a n n
    | v => v
  | _ => Gk.hdr

def ptrOK (Gk : Gh) (p : List Stp) (v : Value) : L → Prop
  | .box _ t _ => ∃ b o, Gk.blk = some (b, 0) ∧ t.off p = some o ∧ t.valid p ∧ v = .pointer (some ⟨b, o, none⟩)
  | .sl _ t xs => ∃ b off o n p', p = .i n :: p' ∧ n < xs.length ∧ Gk.blk = some (b, off) ∧ t.off p' = some o ∧ t.valid p' ∧ v = .pointer (some ⟨b, off + (n * t.csize + o), none⟩)
  | .fz _ _ _ => True
  | .fb _ t _ => ∃ b o, Gk.blk = some (b, 0) ∧ t.off p = some o ∧ t.valid p ∧ v = .pointer (some ⟨b, o, none⟩)
  | .nl _ _ xss _ _ => ∃ b off n, p = [.i n] ∧ n < xss.length ∧ Gk.blk = some (b, off) ∧ v = .pointer (some ⟨b, off + n, none⟩)
  | _ => False

def innOK (Gk : Gh) (h n : Nat) (v : Value) : L → Prop
  | .nl _ _ xss h' _ => h ≤ h' ∧ (h = h' → n < xss.length ∧ v = Gk.ih n)
  | .fz _ _ _ => True
  | _ => False

def iptOK (Gk : Gh) (h n : Nat) (p : List Stp) (v : Value) : L → Prop
  | .nl _ t xss h' _ => h ≤ h' ∧ (h = h' → ∃ b off o i p', p = .i i :: p' ∧ n < xss.length ∧ i < (xss.getD n []).length ∧ Gk.ib n = some (b, off) ∧ t.off p' = some o ∧ t.valid p' ∧ v = .pointer (some ⟨b, off + (i * t.csize + o), none⟩))
  | .fz _ _ _ => True
  | _ => False

def subOK (Gk : Gh) (lo hi : Nat) (v : Value) : L → Prop
  | .sl _ t xs => lo ≤ hi ∧ hi ≤ xs.length ∧ ∃ ao cap, Gk.hdr = .slice ao xs.length cap ∧ xs.length ≤ cap ∧ v = .slice (if cap = lo then ao else ao.map (·.add (lo * t.csize))) (hi - lo) (cap - lo)
  | .fz _ _ _ => True
  | _ => False

def ERep : V → Value → Prop
  | .any, _ => True
  | .d f t x, v => ∃ cs, v = mkV t cs ∧ (reps P t).c w (dS B G m f) x cs
  | .c v0, v => v = v0
  | .ptr k g p, v => ∃ g' l, m k = some (g', l) ∧ g ≤ g' ∧ (g = g' → ptrOK (G k) p v l)
  | .own k g, v => ∃ g' l, m k = some (g', l) ∧ g ≤ g' ∧ (g = g' → v = hdrOf (G k) l)
  | .ept f t x, v => ∃ b o cs, v = .pointer (some ⟨b, o, none⟩) ∧ dS B G m f b ∧ b < w.heap.size ∧ cellsAt w b o cs ∧ (reps P t).c w (dS B G m f) x cs
  | .fnc g t x, v => ∃ caps, v = .func (.func g) #[] caps.toArray ∧ (reps P t).v w (dS B G m false) x caps []
  | .bnd g t x, v => ∃ fs, v = .func (.func g) fs.toArray #[] ∧ (reps P t).v w (dS B G m false) x fs []
  | .ub p q, v => ∃ b, v = .bool b ∧ (b = true → p) ∧ (b = false → q)
  | .sub k g lo hi, v => ∃ g' l, m k = some (g', l) ∧ g ≤ g' ∧ (g = g' → subOK (G k) lo hi v l)
  | .inn k g h n, v => ∃ g' l, m k = some (g', l) ∧ g ≤ g' ∧ (g = g' → innOK (G k) h n v l)
  | .ipt k g h n p, v => ∃ g' l, m k = some (g', l) ∧ g ≤ g' ∧ (g = g' → iptOK (G k) h n p v l)
  | .yld, v => v = .func (.yield B.l) #[] #[]
  | .tup n l, v => ∃ vs : List Value, v = .tuple vs.toArray ∧ vs.length = n ∧ ∀ i u, vs[i]? = some u → ERep (l i) u

end

/-- What was known of pointers, headers and parts stays so. -/
def GExt (Gk Gk' : Gh) (l l' : L) : Prop := (∀ p v, ptrOK Gk p v l → ptrOK Gk' p v l') ∧ hdrOf Gk l = hdrOf Gk' l' ∧ (∀ lo hi v, subOK Gk lo hi v l → subOK Gk' lo hi v l') ∧
  (∀ h n v, innOK Gk h n v l → innOK Gk' h n v l') ∧ ∀ h n p v, iptOK Gk h n p v l → iptOK Gk' h n p v l'

theorem GExt.refl (Gk : Gh) (l : L) : GExt Gk Gk l l := ⟨fun _ _ h => h, rfl, fun _ _ _ h => h, fun _ _ _ h => h, fun _ _ _ _ h => h⟩
theorem GExt.trans {A B C : Gh} {a b c : L} (h : GExt A B a b) (k : GExt B C b c) : GExt A C a c := ⟨fun p v x => k.1 p v (h.1 p v x), h.2.1.trans k.2.1, fun lo hi v x => k.2.2.1 lo hi v (h.2.2.1 lo hi v x), fun a b v x => k.2.2.2.1 a b v (h.2.2.2.1 a b v x), fun a b c v x => k.2.2.2.2 a b c v (h.2.2.2.2 a b c v x)⟩

def LExt (l l' : L) : Prop := ∀ Gk, GExt Gk Gk l l'

theorem LExt.refl (l : L) : LExt l l := fun G => .refl G l
theorem LExt.trans {a b c : L} (h : LExt a b) (k : LExt b c) : LExt a c := fun G => (h G).trans (k G)

/-- What is known of abstract values stays so. -/
structure ExtD (B : Bs) (G : Nat → Gh) (m : Mem) (w : World) (G' : Nat → Gh) (m' : Mem) (w' : World) : Prop where
  keep : ∀ f, Keep (dS B G m f) w w'
  sub : ∀ f b, b < w.heap.size → dS B G m f b → dS B G' m' f b
  loc : ∀ k g l, m k = some (g, l) → ∃ g' l', m' k = some (g', l') ∧ g ≤ g' ∧ (g = g' → GExt (G k) (G' k) l l')

structure Ext (B : Bs) (G : Nat → Gh) (m : Mem) (w : World) (G' : Nat → Gh) (m' : Mem) (w' : World) : Prop where
  keep : ∀ f, Keep (dS B G m f) w w'
  sub : ∀ f b, b < w.heap.size → dS B G m f b → dS B G' m' f b
  loc : ∀ k g l, m k = some (g, l) → ∃ g' l', m' k = some (g', l') ∧ g ≤ g' ∧ (g = g' → GExt (G k) (G' k) l l')
  bel : Below B.n w w'
  oth : ∀ b o, w.heap[b]? = some o → ¬ isC w b → w'.heap[b]? = some o

section
variable {P : Program} {B : Bs} {G G' G'' : Nat → Gh} {m m' m'' : Mem} {w w' w'' : World}

theorem Ext.refl : Ext B G m w G m w := ⟨fun _ => Keep.refl _ _, fun _ _ _ h => h, fun k g l h => ⟨g, l, h, Nat.le_refl _, fun _ => .refl _ _⟩, Below.refl _ _, fun _ _ h _ => h⟩

theorem Ext.trans (h : Ext B G m w G' m' w') (h' : Ext B G' m' w' G'' m'' w'') : Ext B G m w G'' m'' w'' :=
  ⟨fun f => (h.keep f).trans (h'.keep f) (h.sub f), fun f b hb hs => h'.sub f b (Nat.lt_of_lt_of_le hb (h.keep f).1) (h.sub f b hb hs), fun k g l hk => by
    obtain ⟨g1, l1, a1, a2, a3⟩ := h.loc k g l hk
    obtain ⟨g2, l2, b1, b2, b3⟩ := h'.loc k g1 l1 a1
    refine ⟨g2, l2, b1, Nat.le_trans a2 b2, fun e => ?_⟩
    have e1 : g = g1 := by omega
    have e2 : g1 = g2 := by omega
    exact (a3 e1).trans (b3 e2), h.bel.trans h'.bel, fun b o e hc => h'.oth b o (h.oth b o e hc) (fun ⟨c, e', p, e2⟩ => by
      rw [h.oth b o e hc] at e2; cases e2
      exact hc ⟨_, _, _, e⟩)⟩

theorem Ext.d (h : Ext B G m w G' m' w') : ExtD B G m w G' m' w' := ⟨h.keep, h.sub, h.loc⟩

theorem ExtD.c {t : T} {f : Bool} {x : t.den} {cs : List Value} (h : ExtD B G m w G' m' w') (hc : (reps P t).c w (dS B G m f) x cs) : (reps P t).c w' (dS B G' m' f) x cs := c_keep t hc (h.keep f) (h.sub f)

theorem Ext.c {t : T} {f : Bool} {x : t.den} {cs : List Value} (h : Ext B G m w G' m' w') (hc : (reps P t).c w (dS B G m f) x cs) : (reps P t).c w' (dS B G' m' f) x cs := c_keep t hc (h.keep f) (h.sub f)

theorem ERep.deref {x : V} {v : Value} (h : ERep P B G m w x v) : ERep P B G m w x.deref v := by
  unfold V.deref
  split
  · obtain ⟨cs, e, b, off, ds, rfl, h1, h2, h3, h4⟩ := h
    exact ⟨b, off, ds, e, h1, h2, h3, h4⟩
  · exact h

theorem ERep.extD (h : ExtD B G m w G' m' w') : ∀ {V : V} {v : Value}, ERep P B G m w V v → ERep P B G' m' w' V v := by
  intro V
  induction V with
  | any => intro v _; trivial
  | d f t x => rintro v ⟨cs, e, hc⟩; exact ⟨cs, e, h.c hc⟩
  | c v0 => intro v e; exact e
  | ptr k g p =>
    rintro v ⟨g', l, e, h1, h2⟩
    obtain ⟨g2, l2, a1, a2, a3⟩ := h.loc k g' l e
    refine ⟨g2, l2, a1, Nat.le_trans h1 a2, fun e => ?_⟩
    have e1 : g = g' := by omega
    have e2 : g' = g2 := by omega
    exact (a3 e2).1 _ _ (h2 e1)
  | inn k g hh n =>
    rintro v ⟨g', l, e, h1, h2⟩
    obtain ⟨g2, l2, a1, a2, a3⟩ := h.loc k g' l e
    refine ⟨g2, l2, a1, Nat.le_trans h1 a2, fun e => ?_⟩
    have e1 : g = g' := by omega
    have e2 : g' = g2 := by omega
    exact (a3 e2).2.2.2.1 _ _ _ (h2 e1)
  | ipt k g hh n p =>
    rintro v ⟨g', l, e, h1, h2⟩
    obtain ⟨g2, l2, a1, a2, a3⟩ := h.loc k g' l e
    refine ⟨g2, l2, a1, Nat.le_trans h1 a2, fun e => ?_⟩
    have e1 : g = g' := by omega
    have e2 : g' = g2 := by omega
    exact (a3 e2).2.2.2.2 _ _ _ _ (h2 e1)
  | own k g =>
    rintro v ⟨g', l, e, h1, h2⟩
    obtain ⟨g2, l2, a1, a2, a3⟩ := h.loc k g' l e
    refine ⟨g2, l2, a1, Nat.le_trans h1 a2, fun e => ?_⟩
    have e1 : g = g' := by omega
    have e2 : g' = g2 := by omega
    rw [← (a3 e2).2.1]
    exact h2 e1
  | sub k g lo hi =>
    rintro v ⟨g', l, e, h1, h2⟩
    obtain ⟨g2, l2, a1, a2, a3⟩ := h.loc k g' l e
    refine ⟨g2, l2, a1, Nat.le_trans h1 a2, fun e => ?_⟩
    have e1 : g = g' := by omega
    have e2 : g' = g2 := by omega
    exact (a3 e2).2.2.1 _ _ _ (h2 e1)
  | ept f t x =>
    rintro v ⟨b, o, cs, e, h1, h2, h3, h4⟩
    exact ⟨b, o, cs, e, h.sub f b h2 h1, Nat.lt_of_lt_of_le h2 (h.keep f).1, h3.keep (fun hc => (h.keep f).2 b hc h1), h.c h4⟩
  | fnc g t x =>
    rintro v ⟨caps, e, hv⟩
    exact ⟨caps, e, v_keep t hv (h.keep false) (h.sub false)⟩
  | bnd g t x =>
    rintro v ⟨caps, e, hv⟩
    exact ⟨caps, e, v_keep t hv (h.keep false) (h.sub false)⟩
  | ub p q => intro v h; exact h
  | yld => intro v h; exact h
  | tup n l ih =>
    rintro v ⟨vs, e, hn, hv⟩
    exact ⟨vs, e, hn, fun i u hu => ih i (hv i u hu)⟩

theorem ERep.ext (h : Ext B G m w G' m' w') {V : V} {v : Value} : ERep P B G m w V v → ERep P B G' m' w' V v := ERep.extD h.d

theorem LRep.own_lt {k : Nat} {l : L} (hl : LRep P B G m w k l) (hmut : l.mut = true) {b : Nat} (e : ownL (G k) l b) : b < w.heap.size ∧ B.n ≤ b := by
  cases l with
  | box f t x =>
    obtain ⟨o, e⟩ := e
    obtain ⟨b', cur, e', h1, h2, h3, h4, h5⟩ := hl
    rw [h1] at e; cases e
    exact ⟨(Array.getElem?_eq_some_iff.1 h4).1, h3⟩
  | sl f t xs =>
    obtain ⟨o, e⟩ := e
    unfold LRep at hl
    rcases hl with ⟨_, _, hn⟩ | ⟨b', off, cap, cur, e', h1, h2, h3, h4, h5⟩
    · rw [hn] at e; cases e
    · rw [h1] at e; cases e
      exact ⟨(Array.getElem?_eq_some_iff.1 h4).1, h3⟩
  | nl f t xss h hole =>
    obtain ⟨vs, h1, h2, h3, h4, h5, _⟩ := hl
    rcases e with ⟨o, e⟩ | ⟨n, o, e⟩
    · rcases h1 with ⟨_, _, hn⟩ | ⟨b', off, cap, cur, e', h1, h2, h3, h4, h5⟩
      · rw [hn] at e; cases e
      · rw [h1] at e; cases e
        exact ⟨(Array.getElem?_eq_some_iff.1 h4).1, h3⟩
    · by_cases hn : xss.length ≤ n ∨ hole = some n
      · rw [h5 n hn] at e; cases e
      · have hlt : n < xss.length := by
          rcases Nat.lt_or_ge n xss.length with h | h
          · exact h
          · exact absurd (.inl h) hn
        rcases h4 n xss[n] (by simp [hlt]) (fun e => hn (.inr e)) with ⟨_, _, hn⟩ | ⟨b', off, cap, cur, e', h1, h2, h3, h4, h5⟩
        · rw [hn] at e; cases e
        · rw [h1] at e; cases e
          exact ⟨(Array.getElem?_eq_some_iff.1 h4).1, h3⟩
  | it A ys i => exact ⟨(hl.2.2.1 b e).2, (hl.2.2.1 b e).1⟩
  | itx => exact ⟨(hl.2.1 b e).2, (hl.2.1 b e).1⟩
  | fz f t xs => simp [L.mut] at hmut
  | fb f t x => simp [L.mut] at hmut
  | mv => simp [L.mut] at hmut
  | rg fr A ys i => simp [L.mut] at hmut

/-- The blocks of a local that is written to are rows of cells, but for those of who ranges over an iterator. -/
theorem LRep.own_isC {k : Nat} {l : L} (hl : LRep P B G m w k l) (hmut : l.mut = true) {b : Nat} (e : ownL (G k) l b) : isC w b ∨ (∃ A ys i, l = .it A ys i) ∨ l = .itx := by
  have ow : ∀ {α : Type} {R : α → List Value → Prop} {size : Nat} {S : Nat → Prop} {xs : List α} {v : Value} {ob : Option (Nat × Nat)}, repOwn R size w S xs v ob → ∀ o, ob = some (b, o) → isC w b := by
    intro α R size S xs v ob h o e
    rcases h with ⟨_, _, hn⟩ | ⟨b', off, cap, cur, e', h1, h2, h3, h4, h5⟩
    · rw [hn] at e; cases e
    · rw [h1] at e; cases e
      exact ⟨_, _, _, h4⟩
  cases l with
  | box f t x =>
    obtain ⟨o, e⟩ := e
    obtain ⟨b', cur, e', h1, h2, h3, h4, h5⟩ := hl
    rw [h1] at e; cases e
    exact .inl ⟨_, _, _, h4⟩
  | sl f t xs =>
    obtain ⟨o, e⟩ := e
    unfold LRep at hl
    exact .inl (ow hl o e)
  | nl f t xss h hole =>
    obtain ⟨vs, h1, h2, h3, h4, h5, _⟩ := hl
    rcases e with ⟨o, e⟩ | ⟨n, o, e⟩
    · exact .inl (ow h1 o e)
    · by_cases hn : xss.length ≤ n ∨ hole = some n
      · rw [h5 n hn] at e; cases e
      · have hlt : n < xss.length := by
          rcases Nat.lt_or_ge n xss.length with h | h
          · exact h
          · exact absurd (.inl h) hn
        exact .inl (ow (h4 n xss[n] (by simp [hlt]) (fun e => hn (.inr e))) o e)
  | it A ys i => exact .inr (.inl ⟨A, ys, i, rfl⟩)
  | itx => exact .inr (.inr rfl)
  | fz f t xs => simp [L.mut] at hmut
  | fb f t x => simp [L.mut] at hmut
  | mv => simp [L.mut] at hmut
  | rg fr A ys i => simp [L.mut] at hmut

theorem repOwn.ext {α : Type} {R R' : α → List Value → Prop} {size : Nat} {S : Nat → Prop} {xs : List α} {v : Value} {ob : Option (Nat × Nat)} (h : repOwn R size w S xs v ob) (hb : ∀ b o, ob = some (b, o) → w'.heap[b]? = w.heap[b]?) (hR : ∀ x cs, R x cs → R' x cs) : repOwn R' size w' S xs v ob := by
  rcases h with hl | ⟨b, off, cap, cur, e, h1, h2, h3, h4, h5, h6, h7, h8⟩
  · exact .inl hl
  · exact .inr ⟨b, off, cap, cur, e, h1, h2, h3, (hb b off h1).trans h4, h5, h6, h7, repL_mono hR _ _ h8⟩

def L.isIt : L → Bool
  | .it _ _ _ => true
  | .itx => true
  | _ => false

/-- No block that is still written to. -/
theorem LRep.extD {k : Nat} {l : L} (h : ExtD B G m w G' m' w') (hG : G' k = G k) (hi : l.isIt = false) (hb : l.mut = true → ∀ b, ownL (G k) l b → w'.heap[b]? = w.heap[b]?) (hl : LRep P B G m w k l) : LRep P B G' m' w' k l := by
  cases l with
  | box f t x =>
    obtain ⟨b, cur, e, h1, h2, h3, h4, h5⟩ := hl
    exact ⟨b, cur, e, by rw [hG]; exact h1, by rw [hG]; exact h2, h3, (hb rfl b ⟨0, h1⟩).trans h4, h.c h5⟩
  | sl f t xs =>
    unfold LRep at hl ⊢
    rw [hG]
    exact hl.ext (fun b o e => hb rfl b ⟨o, e⟩) fun _ _ h' => h.c h'
  | fz f t xs =>
    unfold LRep at hl ⊢
    rw [hG]
    exact h.c hl
  | fb f t x =>
    obtain ⟨b, h1, h2⟩ := hl
    exact ⟨b, by rw [hG]; exact h1, h.c (t := .ref t) h2⟩
  | nl f t xss hh hole =>
    obtain ⟨vs, h1, h2, h3, h4, h5, h6, h7⟩ := hl
    unfold LRep
    rw [hG]
    exact ⟨vs, h1.ext (fun b o e => hb rfl b (.inl ⟨o, e⟩)) fun _ _ h => h, h2, h3, fun n xs hn hh => (h4 n xs hn hh).ext (fun b o e => hb rfl b (.inr ⟨n, o, e⟩)) fun _ _ h' => h.c h', h5, h6, h7⟩
  | mv => unfold LRep; trivial
  | rg fr A ys i => unfold LRep; trivial
  | it A ys i => cases hi
  | itx => cases hi

theorem LRep.ext {k : Nat} {l : L} (h : Ext B G m w G' m' w') (hG : G' k = G k) (hb : l.mut = true → ∀ b, ownL (G k) l b → w'.heap[b]? = w.heap[b]?) (hl : LRep P B G m w k l) : LRep P B G' m' w' k l := by
  have hj : (∀ b, (G k).hz b → b < w.heap.size ∧ B.n ≤ b ∧ dS B G m false b) → (∀ b, (G k).ex b → w'.heap[b]? = w.heap[b]?) → Grow (fun b => B.n ≤ b ∧ ¬ (G k).ex b ∧ ¬ (G k).hz b) w w' := by
    intro h1 h2
    refine ⟨h.bel.os, h.bel.tape, h.bel.output, h.bel.size, fun b hb hn => ?_⟩
    by_cases hlt : b < B.n
    · exact h.bel.block b hlt
    · by_cases hx : (G k).ex b
      · exact h2 b hx
      · have hz : (G k).hz b := Classical.byContradiction fun hz => hn ⟨by omega, hx, hz⟩
        by_cases hc : isC w b
        · exact (h.keep false).2 b hc (h1 b hz).2.2
        · have e : w.heap[b]? = some w.heap[b] := by simp [hb]
          exact (h.oth b _ e hc).trans e.symm
  cases l with
  | it A ys i =>
    obtain ⟨hk0, h0, h1, hz, j, h2, h3⟩ := hl
    unfold LRep
    rw [hG]
    exact ⟨hk0, h0, fun b hx => ⟨(h1 b hx).1, Nat.lt_of_lt_of_le (h1 b hx).2 h.bel.size⟩, fun b hx => ⟨Nat.lt_of_lt_of_le (hz b hx).1 h.bel.size, (hz b hx).2.1, h.sub false b (hz b hx).1 (hz b hx).2.2⟩, j, h2, j.cl _ _ _ _ _ _ _ h3 (hj hz (fun b hx => hb rfl b hx)) (fun b hb => .inl hb) fun b hb => .inl hb⟩
  | itx =>
    obtain ⟨hk0, h1, hz, j, h2, h3⟩ := hl
    unfold LRep
    rw [hG]
    exact ⟨hk0, fun b hx => ⟨(h1 b hx).1, Nat.lt_of_lt_of_le (h1 b hx).2 h.bel.size⟩, fun b hx => ⟨Nat.lt_of_lt_of_le (hz b hx).1 h.bel.size, (hz b hx).2.1, h.sub false b (hz b hx).1 (hz b hx).2.2⟩, j, h2, j.clx _ _ _ _ _ _ h3 (hj hz (fun b hx => hb rfl b hx)) (fun b hb => .inl hb) fun b hb => .inl hb⟩
  | _ => exact hl.extD h.d hG rfl hb

/-- Only new blocks, and the abstract memory as it was. -/
theorem MRel.grow {w0 : World} (h : MRel P B G m w w0) (hb : Below w.heap.size w w') : MRel P B G m w' w0 ∧ Ext B G m w G m w' := by
  have he : Ext B G m w G m w' := ⟨fun f => Keep.of_below hb, fun _ _ _ h => h, fun k g l h => ⟨g, l, h, Nat.le_refl _, fun _ => .refl _ _⟩, hb.mono h.base, fun b o e _ => (hb.block b (Array.getElem?_eq_some_iff.1 e).1).trans e⟩
  exact ⟨⟨fun hlo => (h.low hlo).trans (hb.mono h.base), Nat.le_trans h.base hb.size, fun k g l hk => (h.loc k g l hk).ext he rfl fun hmut b e => hb.block b ((h.loc k g l hk).own_lt hmut e).1, h.inj,
    ⟨fun b hT => ⟨Nat.lt_of_lt_of_le (h.frn.1 b hT).1 hb.size, (hb.block b (h.frn.1 b hT).1).trans (h.frn.1 b hT).2⟩, h.frn.2⟩, Nat.le_trans h.lbd hb.size⟩, he⟩

end

/-! ### The program's types -/
def zeroCs : T → List Value
  | .int => [.int .i64 0]
  | .bool => [.bool false]
  | .nil => []
  | .cons a b => zeroCs a ++ zeroCs b
  | .sl _ => [.slice none 0 0]
  | .osl _ => [.slice none 0 0]
  | .ref _ => [.slice none 0 0]
  | .arr n a => (List.replicate n (zeroCs a)).flatten
  | .fn _ _ => [.nilFunc]
  | .nsl _ => [.slice none 0 0]
  | .seq _ _ => [.nilFunc]

structure TY where
  ty : TypeId → Prop
  fl : List Field → Nat → Prop

def infoOK (P : Program) (t : T) (i : TypeId) : Prop := ∃ f, P.info? i = some f ∧ f.size = t.csize ∧ f.bytes ≤ 16384 ∧ (t.hasZero = true → ∃ z, f.zero = some z ∧ z = mkV t (zeroCs t))

def eqOK (P : Program) (t : T) (i : TypeId) : Prop := t.hasEq = true → t.agg = true → P.stoodInHeld i = false ∧ P.eqGuardType P.depth i = false

def tys (P : Program) : T → TY
  | .int => ⟨fun i => P.underlying i = some (.int .i64) ∧ infoOK P .int i, fun _ _ => False⟩
  | .bool => ⟨fun i => P.underlying i = some .bool ∧ infoOK P .bool i, fun _ _ => False⟩
  | .nil => ⟨fun i => (∃ fs, P.underlying i = some (.struct fs) ∧ fs.toList = []) ∧ infoOK P .nil i ∧ eqOK P .nil i, fun l _ => l = []⟩
  | .cons a b => ⟨fun i => (∃ fs, P.underlying i = some (.struct fs) ∧ ∃ f l, fs.toList = f :: l ∧ f.offset = 0 ∧ a.csize ≠ 0 ∧ f.name ≠ "_" ∧ (tys P a).ty f.type ∧ (tys P b).fl l a.csize) ∧ infoOK P (.cons a b) i ∧ eqOK P (.cons a b) i,
      fun l o => ∃ f l', l = f :: l' ∧ f.offset = o ∧ a.csize ≠ 0 ∧ f.name ≠ "_" ∧ (tys P a).ty f.type ∧ (tys P b).fl l' (o + a.csize)⟩
  | .sl a => ⟨fun i => (∃ e, P.underlying i = some (.slice e) ∧ (tys P a).ty e) ∧ infoOK P (.sl a) i, fun _ _ => False⟩
  | .osl _ => ⟨fun _ => False, fun _ _ => False⟩
  | .ref _ => ⟨fun _ => False, fun _ _ => False⟩
  | .arr n a => ⟨fun i => (∃ e, P.underlying i = some (.array n e) ∧ (tys P a).ty e) ∧ infoOK P (.arr n a) i, fun _ _ => False⟩
  | .fn a r => ⟨fun i => (∃ ps rs v, P.underlying i = some (.func ps rs v)) ∧ infoOK P (.fn a r) i, fun _ _ => False⟩
  | .nsl _ => ⟨fun _ => False, fun _ _ => False⟩
  | .seq _ _ => ⟨fun _ => False, fun _ _ => False⟩

theorem tys_info {P : Program} : ∀ {t : T} {i : TypeId}, (tys P t).ty i → infoOK P t i
  | .int, _, h => h.2
  | .bool, _, h => h.2
  | .nil, _, h => h.2.1
  | .cons _ _, _, h => h.2.1
  | .sl _, _, h => h.2
  | .osl _, _, h => h.elim
  | .ref _, _, h => h.elim
  | .arr _ _, _, h => h.2
  | .fn _ _, _, h => h.2
  | .nsl _, _, h => h.elim
  | .seq _ _, _, h => h.elim

theorem tys_agg {P : Program} {t : T} {i : TypeId} (h : (tys P t).ty i) (w : World) : (isAgg i).run P w = .ok t.agg w := by
  unfold isAgg
  cases t with
  | int => rw [Sem.run_bind, run_underlying h.1 w]; rfl
  | bool => rw [Sem.run_bind, run_underlying h.1 w]; rfl
  | nil => obtain ⟨⟨fs, h1, _⟩, _⟩ := h; rw [Sem.run_bind, run_underlying h1 w]; rfl
  | cons a b => obtain ⟨⟨fs, h1, _⟩, _⟩ := h; rw [Sem.run_bind, run_underlying h1 w]; rfl
  | sl a => obtain ⟨⟨e, h1, _⟩, _⟩ := h; rw [Sem.run_bind, run_underlying h1 w]; rfl
  | osl a => exact h.elim
  | ref a => exact h.elim
  | arr n a => obtain ⟨⟨e, h1, _⟩, _⟩ := h; rw [Sem.run_bind, run_underlying h1 w]; rfl
  | fn a r => obtain ⟨⟨ps, rs, v, h1⟩, _⟩ := h; rw [Sem.run_bind, run_underlying h1 w]; rfl
  | nsl a => exact h.elim
  | seq fr a => exact h.elim

theorem tys_size {P : Program} {t : T} {i : TypeId} (h : (tys P t).ty i) (w : World) : (sizeOf i).run P w = .ok t.csize w := by
  obtain ⟨f, h1, h2, _⟩ := tys_info h
  simp [sizeOf, typeInfo, h1, h2]

theorem tys_zero {P : Program} {t : T} {i : TypeId} (h : (tys P t).ty i) (hz : t.hasZero = true) (w : World) : (zeroValue i).run P w = .ok (mkV t (zeroCs t)) w := by
  obtain ⟨f, h1, _, _, h2⟩ := tys_info h
  obtain ⟨z, h3, h4⟩ := h2 hz
  simp [zeroValue, typeInfo, h1, h3, h4]

theorem zeroCs_c {P : Program} {w : World} {S : Nat → Prop} : ∀ {t : T}, t.hasZero = true → (reps P t).c w S t.dflt (zeroCs t)
  | .int, _ => ⟨rfl, by constructor <;> decide⟩
  | .bool, _ => rfl
  | .nil, _ => rfl
  | .cons a b, h => by
    simp [T.hasZero] at h
    exact ⟨_, _, rfl, zeroCs_c h.1, zeroCs_c h.2⟩
  | .sl a, _ => ⟨_, rfl, none, 0, rfl, Nat.le_refl _, Nat.zero_le _, .inl rfl⟩
  | .osl _, h => by simp [T.hasZero] at h
  | .ref _, h => by simp [T.hasZero] at h
  | .arr n a, h => ⟨by simp [T.dflt], repL_replicate (zeroCs_c (by simpa [T.hasZero] using h)) n⟩
  | .fn _ _, _ => .inl ⟨rfl, fun _ h => h⟩
  | .nsl _, _ => ⟨_, rfl, ⟨none, 0, rfl, Nat.le_refl _, Nat.zero_le _, .inl rfl⟩, fun _ => rfl⟩
  | .seq _ _, h => by simp [T.hasZero] at h

theorem mkV_cells {P : Program} {t : T} {w : World} {S : Nat → Prop} {x : t.den} {cs : List Value} (h : (reps P t).c w S x cs) : (mkV t cs).cells = cs.toArray := by
  unfold mkV
  split
  · rfl
  · rename_i ha
    have hl := c_len t h
    have h1 := c_one t h
    have hs : t.csize = 1 := by cases t <;> simp_all [T.agg, T.csize]
    match cs, hl.trans hs, h1 with
    | [v], _, h1 =>
      have := h1 v (by simp)
      cases v <;> simp [Value.oneCell'] at this <;> rfl

end Go.Tk
