/- The engine, part D: what abstract memory says of a world; the program's types. No conditions. -/
import Derived.Test.YthjkkjnnkkekeaaEngC
set_option linter.unusedSimpArgs false
set_option linter.unusedVariables false
namespace Go.Tk
open Go Go.RowKit

/-- The blocks of the call's own begin at n; S: the blocks in which its arguments lie. -/
structure Bs where
  n : Nat
  S : Nat → Prop

structure Gh where
  hdr : Value
  blk : Option (Nat × Nat)

section
variable (P : Program) (B : Bs) (G : Nat → Gh) (m : Mem) (w : World)

/-- The blocks in which data may lie: none that is still written to; and, if the Bool is true, of the call's own. -/
def dS (f : Bool) (b : Nat) : Prop := ((f = true → B.n ≤ b) ∧ (B.n ≤ b ∨ B.S b)) ∧ ∀ k g l, m k = some (g, l) → l.mut = true → ∀ o, (G k).blk ≠ some (b, o)

def LRep (k : Nat) : L → Prop
  | .box f t x => ∃ b cur e, (G k).blk = some (b, 0) ∧ (G k).hdr = .pointer (some ⟨b, 0, none⟩) ∧ B.n ≤ b ∧ w.heap[b]? = some (.cells cur e (0, 0)) ∧ (reps P t).c w (dS B G m f) x cur.toList
  | .sl f t xs => repOwn ((reps P t).c w (dS B G m f)) t.csize w (fun b => B.n ≤ b) xs (G k).hdr (G k).blk
  | .fz f t xs => (reps P (.sl t)).c w (dS B G m f) xs [(G k).hdr]
  | .fb f t x => ∃ b, (G k).blk = some (b, 0) ∧ (reps P (.ref t)).c w (dS B G m f) x [.pointer (some ⟨b, 0, none⟩)]

structure MRel (w0 : World) : Prop where
  low : Below B.n w0 w
  base : B.n ≤ w.heap.size
  loc : ∀ k g l, m k = some (g, l) → LRep P B G m w k l
  inj : ∀ k k' g g' l l' b o o', m k = some (g, l) → m k' = some (g', l') → l.mut = true → l'.mut = true → (G k).blk = some (b, o) → (G k').blk = some (b, o') → k = k'

def hdrOf (Gk : Gh) : L → Value
  | .box _ (.arr n _) _ => match Gk.hdr with
    | .pointer a => .slice a n n
    | v => v
  | .fb _ (.arr n _) _ => match Gk.hdr with
    | .pointer a => .slice a n n
    | v => v
  | _ => Gk.hdr

def ptrOK (Gk : Gh) (p : List Stp) (v : Value) : L → Prop
  | .box _ t _ => ∃ b o, Gk.blk = some (b, 0) ∧ t.off p = some o ∧ t.valid p ∧ v = .pointer (some ⟨b, o, none⟩)
  | .sl _ t xs => ∃ b off o n p', p = .i n :: p' ∧ n < xs.length ∧ Gk.blk = some (b, off) ∧ t.off p' = some o ∧ t.valid p' ∧ v = .pointer (some ⟨b, off + (n * t.csize + o), none⟩)
  | .fz _ _ _ => True
  | .fb _ t _ => ∃ b o, Gk.blk = some (b, 0) ∧ t.off p = some o ∧ t.valid p ∧ v = .pointer (some ⟨b, o, none⟩)

def subOK (Gk : Gh) (lo hi : Nat) (v : Value) : L → Prop
  | .sl _ t xs => lo ≤ hi ∧ hi ≤ xs.length ∧ ∃ ao cap, Gk.hdr = .slice ao xs.length cap ∧ xs.length ≤ cap ∧ v = .slice (if cap = lo then ao else ao.map (·.add (lo * t.csize))) (hi - lo) (cap - lo)
  | .fz _ _ _ => True
  | _ => False

def ERep : V → Value → Prop
  | .any, _ => True
  | .d f t x, v => ∃ cs, v = mkV t cs ∧ (reps P t).c w (dS B G m f) x cs
  | .c v0, v => v = v0
  | .ptr k g p, v => ∃ g' l, m k = some (g', l) ∧ g ≤ g' ∧ (g = g' → ptrOK (G k) p v l)
  | .own k g, v => ∃ g' l, m k = some (g', l) ∧ g ≤ g' ∧ (g = g' → v = hdrOf (G k) l)
  | .ept f t x, v => ∃ b o cs, v = .pointer (some ⟨b, o, none⟩) ∧ dS B G m f b ∧ b < w.heap.size ∧ cellsAt w b o cs ∧ (reps P t).c w (dS B G m f) x cs
  | .fnc g t x, v => ∃ caps, v = .func (.func g) #[] caps.toArray ∧ (reps P t).v w (dS B G m false) x caps []
  | .bnd g t x, v => ∃ fs, v = .func (.func g) fs.toArray #[] ∧ (reps P t).v w (dS B G m false) x fs []
  | .ub p q, v => ∃ b, v = .bool b ∧ (b = true → p) ∧ (b = false → q)
  | .sub k g lo hi, v => ∃ g' l, m k = some (g', l) ∧ g ≤ g' ∧ (g = g' → subOK (G k) lo hi v l)
  | .tup n l, v => ∃ vs : List Value, v = .tuple vs.toArray ∧ vs.length = n ∧ ∀ i u, vs[i]? = some u → ERep (l i) u

end

def LExt (l l' : L) : Prop := (∀ Gk p v, ptrOK Gk p v l → ptrOK Gk p v l') ∧ (∀ Gk, hdrOf Gk l = hdrOf Gk l') ∧ ∀ Gk lo hi v, subOK Gk lo hi v l → subOK Gk lo hi v l'

theorem LExt.refl (l : L) : LExt l l := ⟨fun _ _ _ h => h, fun _ => rfl, fun _ _ _ _ h => h⟩
theorem LExt.trans {a b c : L} (h : LExt a b) (k : LExt b c) : LExt a c := ⟨fun G p v x => k.1 G p v (h.1 G p v x), fun G => (h.2.1 G).trans (k.2.1 G), fun G lo hi v x => k.2.2 G lo hi v (h.2.2 G lo hi v x)⟩

structure Ext (B : Bs) (G : Nat → Gh) (m : Mem) (w : World) (G' : Nat → Gh) (m' : Mem) (w' : World) : Prop where
  keep : ∀ f, Keep (dS B G m f) w w'
  sub : ∀ f b, b < w.heap.size → dS B G m f b → dS B G' m' f b
  loc : ∀ k g l, m k = some (g, l) → ∃ g' l', m' k = some (g', l') ∧ g ≤ g' ∧ (g = g' → G' k = G k ∧ LExt l l')

section
variable {P : Program} {B : Bs} {G G' G'' : Nat → Gh} {m m' m'' : Mem} {w w' w'' : World}

theorem Ext.refl : Ext B G m w G m w := ⟨fun _ => Keep.refl _ _, fun _ _ _ h => h, fun k g l h => ⟨g, l, h, Nat.le_refl _, fun _ => ⟨rfl, .refl _⟩⟩⟩

theorem Ext.trans (h : Ext B G m w G' m' w') (h' : Ext B G' m' w' G'' m'' w'') : Ext B G m w G'' m'' w'' :=
  ⟨fun f => (h.keep f).trans (h'.keep f) (h.sub f), fun f b hb hs => h'.sub f b (Nat.lt_of_lt_of_le hb (h.keep f).1) (h.sub f b hb hs), fun k g l hk => by
    obtain ⟨g1, l1, a1, a2, a3⟩ := h.loc k g l hk
    obtain ⟨g2, l2, b1, b2, b3⟩ := h'.loc k g1 l1 a1
    refine ⟨g2, l2, b1, Nat.le_trans a2 b2, fun e => ?_⟩
    have e1 : g = g1 := by omega
    have e2 : g1 = g2 := by omega
    exact ⟨(b3 e2).1.trans (a3 e1).1, (a3 e1).2.trans (b3 e2).2⟩⟩

theorem Ext.c {t : T} {f : Bool} {x : t.den} {cs : List Value} (h : Ext B G m w G' m' w') (hc : (reps P t).c w (dS B G m f) x cs) : (reps P t).c w' (dS B G' m' f) x cs := c_keep t hc (h.keep f) (h.sub f)

theorem ERep.deref {x : V} {v : Value} (h : ERep P B G m w x v) : ERep P B G m w x.deref v := by
  unfold V.deref
  split
  · obtain ⟨cs, e, b, off, ds, rfl, h1, h2, h3, h4⟩ := h
    exact ⟨b, off, ds, e, h1, h2, h3, h4⟩
  · exact h

theorem ERep.ext (h : Ext B G m w G' m' w') : ∀ {V : V} {v : Value}, ERep P B G m w V v → ERep P B G' m' w' V v := by
  intro V
  induction V with
  | any => intro v _; trivial
  | d f t x => rintro v ⟨cs, e, hc⟩; exact ⟨cs, e, h.c hc⟩
  | c v0 => intro v e; exact e
  | ptr k g p =>
    rintro v ⟨g', l, e, h1, h2⟩
    obtain ⟨g2, l2, a1, a2, a3⟩ := h.loc k g' l e
    refine ⟨g2, l2, a1, Nat.le_trans h1 a2, fun e => ?_⟩
    have e1 : g = g' := by omega
    have e2 : g' = g2 := by omega
    rw [(a3 e2).1]
    exact (a3 e2).2.1 _ _ _ (h2 e1)
  | own k g =>
    rintro v ⟨g', l, e, h1, h2⟩
    obtain ⟨g2, l2, a1, a2, a3⟩ := h.loc k g' l e
    refine ⟨g2, l2, a1, Nat.le_trans h1 a2, fun e => ?_⟩
    have e1 : g = g' := by omega
    have e2 : g' = g2 := by omega
    rw [(a3 e2).1, ← (a3 e2).2.2.1]
    exact h2 e1
  | sub k g lo hi =>
    rintro v ⟨g', l, e, h1, h2⟩
    obtain ⟨g2, l2, a1, a2, a3⟩ := h.loc k g' l e
    refine ⟨g2, l2, a1, Nat.le_trans h1 a2, fun e => ?_⟩
    have e1 : g = g' := by omega
    have e2 : g' = g2 := by omega
    rw [(a3 e2).1]
    exact (a3 e2).2.2.2 _ _ _ _ (h2 e1)
  | ept f t x =>
    rintro v ⟨b, o, cs, e, h1, h2, h3, h4⟩
    exact ⟨b, o, cs, e, h.sub f b h2 h1, Nat.lt_of_lt_of_le h2 (h.keep f).1, h3.keep ((h.keep f).2 b h2 h1), h.c h4⟩
  | fnc g t x =>
    rintro v ⟨caps, e, hv⟩
    exact ⟨caps, e, v_keep t hv (h.keep false) (h.sub false)⟩
  | bnd g t x =>
    rintro v ⟨caps, e, hv⟩
    exact ⟨caps, e, v_keep t hv (h.keep false) (h.sub false)⟩
  | ub p q => intro v h; exact h
  | tup n l ih =>
    rintro v ⟨vs, e, hn, hv⟩
    exact ⟨vs, e, hn, fun i u hu => ih i (hv i u hu)⟩

/-- No block that is still written to. -/
theorem LRep.ext {k : Nat} {l : L} (h : Ext B G m w G' m' w') (hG : G' k = G k) (hb : l.mut = true → ∀ b o, (G k).blk = some (b, o) → w'.heap[b]? = w.heap[b]?) (hl : LRep P B G m w k l) : LRep P B G' m' w' k l := by
  cases l with
  | box f t x =>
    obtain ⟨b, cur, e, h1, h2, h3, h4, h5⟩ := hl
    exact ⟨b, cur, e, by rw [hG]; exact h1, by rw [hG]; exact h2, h3, (hb rfl b 0 h1).trans h4, h.c h5⟩
  | sl f t xs =>
    unfold LRep at hl ⊢
    rw [hG]
    rcases hl with hl | ⟨b, off, cap, cur, e, h1, h2, h3, h4, h5⟩
    · exact .inl hl
    · obtain ⟨h5, h6, h7, h8⟩ := h5
      exact .inr ⟨b, off, cap, cur, e, h1, h2, h3, (hb rfl b off h1).trans h4, h5, h6, h7, repL_mono (fun _ _ h' => h.c h') _ _ h8⟩
  | fz f t xs =>
    unfold LRep at hl ⊢
    rw [hG]
    exact h.c hl
  | fb f t x =>
    obtain ⟨b, h1, h2⟩ := hl
    exact ⟨b, by rw [hG]; exact h1, h.c (t := .ref t) h2⟩

/-- Only new blocks, and the abstract memory as it was. -/
theorem MRel.grow {w0 : World} (h : MRel P B G m w w0) (hb : Below w.heap.size w w') : MRel P B G m w' w0 ∧ Ext B G m w G m w' := by
  have he : Ext B G m w G m w' := ⟨fun f => Keep.of_below hb, fun _ _ _ h => h, fun k g l h => ⟨g, l, h, Nat.le_refl _, fun _ => ⟨rfl, .refl _⟩⟩⟩
  refine ⟨⟨h.low.trans (hb.mono h.base), Nat.le_trans h.base hb.size, fun k g l hk => (h.loc k g l hk).ext he rfl fun _ b o e => ?_, h.inj⟩, he⟩
  have hl := h.loc k g l hk
  have : b < w.heap.size := by
    cases l with
    | box f t x =>
      obtain ⟨b', cur, e', h1, h2, h3, h4, h5⟩ := hl
      rw [h1] at e; cases e
      exact (Array.getElem?_eq_some_iff.1 h4).1
    | sl f t xs =>
      unfold LRep at hl
      rcases hl with ⟨_, _, hn⟩ | ⟨b', off, cap, cur, e', h1, h2, h3, h4, h5⟩
      · rw [hn] at e; cases e
      · rw [h1] at e; cases e
        exact (Array.getElem?_eq_some_iff.1 h4).1
    | fz f t xs => simp [L.mut] at *
    | fb f t x => simp [L.mut] at *
  exact hb.block b this

end

/-! ### The program's types -/
def zeroCs : T → List Value
  | .int => [.int .i64 0]
  | .bool => [.bool false]
  | .nil => []
  | .cons a b => zeroCs a ++ zeroCs b
  | .sl _ => [.slice none 0 0]
  | .osl _ => [.slice none 0 0]
  | .ref _ => [.slice none 0 0]
  | .arr n a => (List.replicate n (zeroCs a)).flatten
  | .fn _ _ => [.nilFunc]

structure TY where
  ty : TypeId → Prop
  fl : List Field → Nat → Prop

def infoOK (P : Program) (t : T) (i : TypeId) : Prop := ∃ f, P.info? i = some f ∧ f.size = t.csize ∧ f.bytes ≤ 16384 ∧ (t.hasZero = true → ∃ z, f.zero = some z ∧ z = mkV t (zeroCs t))

def eqOK (P : Program) (t : T) (i : TypeId) : Prop := t.hasEq = true → t.agg = true → P.stoodInHeld i = false ∧ P.eqGuardType P.depth i = false

def tys (P : Program) : T → TY
  | .int => ⟨fun i => P.underlying i = some (.int .i64) ∧ infoOK P .int i, fun _ _ => False⟩
  | .bool => ⟨fun i => P.underlying i = some .bool ∧ infoOK P .bool i, fun _ _ => False⟩
  | .nil => ⟨fun i => (∃ fs, P.underlying i = some (.struct fs) ∧ fs.toList = []) ∧ infoOK P .nil i ∧ eqOK P .nil i, fun l _ => l = []⟩
  | .cons a b => ⟨fun i => (∃ fs, P.underlying i = some (.struct fs) ∧ ∃ f l, fs.toList = f :: l ∧ f.offset = 0 ∧ a.csize ≠ 0 ∧ f.name ≠ "_" ∧ (tys P a).ty f.type ∧ (tys P b).fl l a.csize) ∧ infoOK P (.cons a b) i ∧ eqOK P (.cons a b) i,
      fun l o => ∃ f l', l = f :: l' ∧ f.offset = o ∧ a.csize ≠ 0 ∧ f.name ≠ "_" ∧ (tys P a).ty f.type ∧ (tys P b).fl l' (o + a.csize)⟩
  | .sl a => ⟨fun i => (∃ e, P.underlying i = some (.slice e) ∧ (tys P a).ty e) ∧ infoOK P (.sl a) i, fun _ _ => False⟩
  | .osl _ => ⟨fun _ => False, fun _ _ => False⟩
  | .ref _ => ⟨fun _ => False, fun _ _ => False⟩
  | .arr n a => ⟨fun i => (∃ e, P.underlying i = some (.array n e) ∧ (tys P a).ty e) ∧ infoOK P (.arr n a) i, fun _ _ => False⟩
  | .fn a r => ⟨fun i => (∃ ps rs v, P.underlying i = some (.func ps rs v)) ∧ infoOK P (.fn a r) i, fun _ _ => False⟩

theorem tys_info {P : Program} : ∀ {t : T} {i : TypeId}, (tys P t).ty i → infoOK P t i
  | .int, _, h => h.2
  | .bool, _, h => h.2
  | .nil, _, h => h.2.1
  | .cons _ _, _, h => h.2.1
  | .sl _, _, h => h.2
  | .osl _, _, h => h.elim
  | .ref _, _, h => h.elim
  | .arr _ _, _, h => h.2
  | .fn _ _, _, h => h.2

theorem tys_agg {P : Program} {t : T} {i : TypeId} (h : (tys P t).ty i) (w : World) : (isAgg i).run P w = .ok t.agg w := by
  unfold isAgg
  cases t with
  | int => rw [Sem.run_bind, run_underlying h.1 w]; rfl
  | bool => rw [Sem.run_bind, run_underlying h.1 w]; rfl
  | nil => obtain ⟨⟨fs, h1, _⟩, _⟩ := h; rw [Sem.run_bind, run_underlying h1 w]; rfl
  | cons a b => obtain ⟨⟨fs, h1, _⟩, _⟩ := h; rw [Sem.run_bind, run_underlying h1 w]; rfl
  | sl a => obtain ⟨⟨e, h1, _⟩, _⟩ := h; rw [Sem.run_bind, run_underlying h1 w]; rfl
  | osl a => exact h.elim
  | ref a => exact h.elim
  | arr n a => obtain ⟨⟨e, h1, _⟩, _⟩ := h; rw [Sem.run_bind, run_underlying h1 w]; rfl
  | fn a r => obtain ⟨⟨ps, rs, v, h1⟩, _⟩ := h; rw [Sem.run_bind, run_underlying h1 w]; rfl

theorem tys_size {P : Program} {t : T} {i : TypeId} (h : (tys P t).ty i) (w : World) : (sizeOf i).run P w = .ok t.csize w := by
  obtain ⟨f, h1, h2, _⟩ := tys_info h
  simp [sizeOf, typeInfo, h1, h2]

theorem tys_zero {P : Program} {t : T} {i : TypeId} (h : (tys P t).ty i) (hz : t.hasZero = true) (w : World) : (zeroValue i).run P w = .ok (mkV t (zeroCs t)) w := by
  obtain ⟨f, h1, _, _, h2⟩ := tys_info h
  obtain ⟨z, h3, h4⟩ := h2 hz
  simp [zeroValue, typeInfo, h1, h3, h4]

theorem zeroCs_c {P : Program} {w : World} {S : Nat → Prop} : ∀ {t : T}, t.hasZero = true → (reps P t).c w S t.dflt (zeroCs t)
  | .int, _ => ⟨rfl, by constructor <;> decide⟩
  | .bool, _ => rfl
  | .nil, _ => rfl
  | .cons a b, h => by
    simp [T.hasZero] at h
    exact ⟨_, _, rfl, zeroCs_c h.1, zeroCs_c h.2⟩
  | .sl a, _ => ⟨_, rfl, none, 0, rfl, Nat.le_refl _, Nat.zero_le _, .inl rfl⟩
  | .osl _, h => by simp [T.hasZero] at h
  | .ref _, h => by simp [T.hasZero] at h
  | .arr n a, h => ⟨by simp [T.dflt], repL_replicate (zeroCs_c (by simpa [T.hasZero] using h)) n⟩
  | .fn _ _, _ => .inl ⟨rfl, fun _ h => h⟩

theorem mkV_cells {P : Program} {t : T} {w : World} {S : Nat → Prop} {x : t.den} {cs : List Value} (h : (reps P t).c w S x cs) : (mkV t cs).cells = cs.toArray := by
  unfold mkV
  split
  · rfl
  · rename_i ha
    have hl := c_len t h
    have h1 := c_one t h
    have hs : t.csize = 1 := by cases t <;> simp_all [T.agg, T.csize]
    match cs, hl.trans hs, h1 with
    | [v], _, h1 =>
      have := h1 v (by simp)
      cases v <;> simp [Value.oneCell'] at this <;> rfl

end Go.Tk
