/- The engine, part U: a range over a function, seen by the one who ranges. No conditions. -/
import Derived.Test.YtmedjckknalpbaaEngT
set_option linter.unusedSimpArgs false
set_option linter.unusedVariables false
namespace Go.Tk
open Go Go.RowKit

section
variable {P : Program} {B : Bs} {G : Nat → Gh} {m : Mem} {w w' w0 : World}

/-- The same bounds, with other foreign and protected blocks. -/
def Bs.wi (B : Bs) (fo kb : Nat → Prop) (tv : Nat → Option Obj) (kv : Nat → Option Value) (ro : Option Nat) (lb : Nat) : Bs := ⟨B.n, B.S, fo, kb, tv, B.lo, kv, ro, B.j, B.l, B.ys, lb⟩

theorem MRel.re (hm : MRel P B G m w w0) (hj : B.j = none) {fo kb : Nat → Prop} {tv : Nat → Option Obj} {kv : Nat → Option Value} {ro : Option Nat} {lb : Nat} (hlb : lb ≤ w'.heap.size) (hos : w'.os = w.os) (htp : w'.tape = w.tape) (hout : w'.output = w.output) (hsz : w.heap.size ≤ w'.heap.size)
    (hc : ∀ b, isC w b → ¬ B.fo b → w'.heap[b]? = w.heap[b]?) (hl : ∀ b, b < B.n → w'.heap[b]? = w.heap[b]?) (hfo : ∀ b, b < w.heap.size → fo b → B.fo b) (hp : ∀ b, fo b ∨ kb b → b < w'.heap.size ∧ w'.heap[b]? = tv b)
    (ho : ∀ b, fo b ∨ kb b → b < w.heap.size → (B.fo b ∨ B.kb b) ∨ ∀ k g l, m k = some (g, l) → l.mut = true → ¬ ownL (G k) l b) :
    MRel P (B.wi fo kb tv kv ro lb) G m w' w0 ∧ ∀ {V : V} {v : Value}, ERep P B G m w V v → ERep P (B.wi fo kb tv kv ro lb) G m w' V v := by
  have hdS : ∀ f b, b < w.heap.size → dS B G m f b → dS (B.wi fo kb tv kv ro lb) G m f b := fun f b hlt h => ⟨h.1, h.2.1, fun hT => h.2.2 (hfo b hlt hT)⟩
  have hK : ∀ f, Keep (dS B G m f) w w' := fun f => ⟨hsz, fun b hb hS => hc b hb hS.2.2⟩
  have hcc : ∀ {t : T} {f : Bool} {y : t.den} {cs : List Value}, (reps P t).c w (dS B G m f) y cs → (reps P t).c w' (dS (B.wi fo kb tv kv ro lb) G m f) y cs := fun h => c_keep _ h (hK _) (hdS _)
  have hvv : ∀ {t : T} {y : t.den} {cs : List Value}, (reps P t).v w (dS B G m false) y cs [] → (reps P t).v w' (dS (B.wi fo kb tv kv ro lb) G m false) y cs [] := fun h => v_keep _ h (hK _) (hdS _)
  have hit : ∀ k g l, m k = some (g, l) → l.isIt = false := by
    intro k g l hk
    have := hm.loc k g l hk
    cases l <;> try rfl
    · obtain ⟨_, _, _, _, j, e, _⟩ := this; rw [hj] at e; cases e
    · obtain ⟨_, _, _, j, e, _⟩ := this; rw [hj] at e; cases e
  have hown : ∀ k g l b, m k = some (g, l) → l.mut = true → ownL (G k) l b → w'.heap[b]? = w.heap[b]? := by
    intro k g l b hk hmut e
    refine hc b ?_ fun hT => hm.frn.2 k g l b hk hmut e (.inl hT)
    rcases (hm.loc k g l hk).own_isC hmut e with h | ⟨A, ys, i, rfl⟩ | rfl
    · exact h
    · have := hit k g _ hk; cases this
    · have := hit k g _ hk; cases this
  refine ⟨⟨fun hlo => ?_, Nat.le_trans hm.base hsz, ?_, hm.inj, ⟨hp, ?_⟩, hlb⟩, ?_⟩
  · have := hm.low hlo
    exact ⟨hos.trans this.os, htp.trans this.tape, hout.trans this.output, Nat.le_trans this.size hsz, fun i hi => (hl i hi).trans (this.block i hi)⟩
  · intro k g l hk
    have hl := hm.loc k g l hk
    have hb := hown k g l
    cases l with
    | box f t x =>
      obtain ⟨b, cur, e, h1, h2, h3, h4, h5⟩ := hl
      exact ⟨b, cur, e, h1, h2, h3, (hb b hk rfl ⟨0, h1⟩).trans h4, hcc h5⟩
    | sl f t xs =>
      unfold LRep at hl ⊢
      exact hl.ext (fun b o e => hb b hk rfl ⟨o, e⟩) fun _ _ h' => hcc h'
    | fz f t xs =>
      unfold LRep at hl ⊢
      exact hcc hl
    | fb f t x =>
      obtain ⟨b, h1, h2⟩ := hl
      exact ⟨b, h1, hcc (t := .ref t) h2⟩
    | nl f t xss hh hole =>
      obtain ⟨vs, h1, h2, h3, h4, h5, h6, h7⟩ := hl
      exact ⟨vs, h1.ext (fun b o e => hb b hk rfl (.inl ⟨o, e⟩)) fun _ _ h => h, h2, h3, fun n xs hn hh => (h4 n xs hn hh).ext (fun b o e => hb b hk rfl (.inr ⟨n, o, e⟩)) fun _ _ h' => hcc h', h5, h6, h7⟩
    | mv => trivial
    | rg fr A ys i => trivial
    | it A ys i => have := hit k g _ hk; cases this
    | itx => have := hit k g _ hk; cases this
  · intro k g l b hk hmut e hb
    have hlt := ((hm.loc k g l hk).own_lt hmut e).1
    rcases ho b hb hlt with h | h
    · exact hm.frn.2 k g l b hk hmut e h
    · exact h k g l hk hmut e
  · intro V
    induction V with
    | any => intro v _; trivial
    | d f t x => rintro v ⟨cs, e, h⟩; exact ⟨cs, e, hcc h⟩
    | c v0 => intro v e; exact e
    | ptr k g p => intro v h; exact h
    | own k g => intro v h; exact h
    | sub k g lo hi => intro v h; exact h
    | inn k g h n => intro v h; exact h
    | ipt k g h n p => intro v h; exact h
    | ept f t x =>
      rintro v ⟨b, o, cs, e, h1, h2, h3, h4⟩
      exact ⟨b, o, cs, e, hdS f b h2 h1, Nat.lt_of_lt_of_le h2 hsz, h3.keep (fun hb => hc b hb h1.2.2), hcc h4⟩
    | fnc g t x => rintro v ⟨caps, e, hv⟩; exact ⟨caps, e, hvv hv⟩
    | bnd g t x => rintro v ⟨caps, e, hv⟩; exact ⟨caps, e, hvv hv⟩
    | ub p q => intro v h; exact h
    | yld => intro v h; exact h
    | tup n l ih => rintro v ⟨vs, e, hn, hv⟩; exact ⟨vs, e, hn, fun i u hu => ih i (hv i u hu)⟩

end

/-! ### The one who ranges -/
def rgK : Nat := 4000000

def outE (wr : List Nat) (env : Nat → V) : Nat → V := fun n => match inN wr n with
  | true => .any
  | false => env n

def outSt (wr : List Nat) (st : St) : St := ⟨outE wr st.env, st.loc⟩

def bindP : List Nat → (A : T) → A.den → Bool → (Nat → V) → Nat → V
  | p :: ps, .cons a b, y, f, env => bindP ps b y.2 f (putEnv env (some p) (.d f a y.1))
  | _, _, _, _, env => env

/-- The bounds of a round. -/
def Brd (B : Bs) (KS : Nat → Prop) (kv : Nat → Option Value) (l : Nat) (T Z : Nat → Prop) (W : World) : Bs :=
  B.wi (fun b => T b ∧ b < W.heap.size) (fun b => b < W.heap.size ∧ (Z b ∨ KS b)) (fun b => W.heap[b]?) kv (some l) W.heap.size

def SemF (P : Program) (B : Bs) (w0 : World) (n : Nat) (wr ps : List Nat) (assign body : Code) (Q : Exit → Act → World → Prop) : Nat → Lst → Prop
  | 0, x => ∀ a w, Rel P B w0 n (outSt wr (mkSt x)) a w → Q .normal a w
  | m + 1, x => ∀ fr A ys k y, lk x.2 rgK = some (.rg fr A ys k) → ys[k]? = some y → ∀ KS kv l T Z W a, (∀ t, inN wr t = true → kv t = none) →
      Rel P (Brd B KS kv l T Z W) w0 n ⟨bindP ps A y fr (outE wr (mkSt x).env), (mkSt x).loc⟩ a W →
      assign.wpIn (Fw (some l)) 0 P (Exit.then (fun a1 W1 => ∃ st1, Rel P (Brd B KS kv l T Z W) w0 n st1 a1 W1 ∧ ∀ W2, Rel P (Brd B KS kv l T Z W2) w0 n st1 a1 W2 →
        body.wpIn (Fw (some l)) 0 P (fun e a3 W3 => ∃ st3, Rel P (Brd B KS kv l T Z W2) w0 n st3 a3 W3 ∧ (match e with
          | .normal => ∃ x' : Lst, lk x'.2 rgK = some (.rg fr A ys (k + 1)) ∧ SemF P B w0 n wr ps assign body Q m x' ∧ st3 = mkSt x'
          | .ret => ∀ a w, Rel P B w0 n (outSt wr st3) a w → Q .ret a w
          | .exit j => ∀ a w, Rel P B w0 n (outSt wr st3) a w → Q (.exit j) a w
          | _ => False)) a1 W2) (fun _ _ _ => False)) a W

/-- What is known of the frame that ranges, between two elements: Wb: the world in which the blocks T and Z were told. -/
def RR (P : Program) (B : Bs) (w0 : World) (KS : Nat → Prop) (kv : Nat → Option Value) (l : Nat) (a : Act) (env : Nat → V) (m : Mem) (T Z : Nat → Prop) (Wb W : World) : Prop :=
  ∃ G, MRel P (Brd B KS kv l T Z Wb) G m W w0 ∧ ∀ t, ERep P (Brd B KS kv l T Z Wb) G m W (env t) (a.tmps.getD t undef)

section
variable {P : Program} {B : Bs} {w0 : World} {KS : Nat → Prop} {kv : Nat → Option Value} {l : Nat} {a : Act} {env : Nat → V} {m : Mem} {T Z T' Z' : Nat → Prop} {Wb W W' : World}

theorem RR.move (h : RR P B w0 KS kv l a env m T Z Wb W) (hj : B.j = none) (hos : W'.os = W.os) (htp : W'.tape = W.tape) (hout : W'.output = W.output) (hsz : W.heap.size ≤ W'.heap.size) (hb : Wb.heap.size ≤ W.heap.size)
    (hc : ∀ b, isC W b → ¬ (T b ∧ b < Wb.heap.size) → W'.heap[b]? = W.heap[b]?) (hl : ∀ b, b < B.n → W'.heap[b]? = W.heap[b]?) (hT : ∀ b, T' b → (T b ∧ b < Wb.heap.size) ∨ W.heap.size ≤ b)
    (hZ : ∀ b, Z' b → ((Z b ∨ T b) ∧ b < Wb.heap.size) ∨ W.heap.size ≤ b) (hK : ∀ b, KS b → b < Wb.heap.size) : RR P B w0 KS kv l a env m T' Z' W' W' := by
  obtain ⟨G, hm, he⟩ := h
  obtain ⟨r1, r2⟩ := hm.re hj (fo := fun b => T' b ∧ b < W'.heap.size) (kb := fun b => b < W'.heap.size ∧ (Z' b ∨ KS b)) (tv := fun b => W'.heap[b]?) (kv := kv) (ro := some l) (lb := W'.heap.size) (Nat.le_refl _) hos htp hout hsz hc hl
    (fun b hlt h => (hT b h.1).resolve_right (by omega)) (fun b h => ⟨by rcases h with h | h <;> omega, rfl⟩) (fun b h hlt => .inl (by
      rcases h with h | ⟨_, h | h⟩
      · exact .inl ((hT b h.1).resolve_right (by omega))
      · rcases hZ b h with ⟨h1 | h1, h2⟩ | h1
        · exact .inr ⟨h2, .inl h1⟩
        · exact .inl ⟨h1, h2⟩
        · omega
      · exact .inr ⟨hK b h, .inr h⟩))
  exact ⟨G, r1, fun t => r2 (he t)⟩

/-- What the one who ranges says of the world behind k elements. -/
def JJ (P : Program) (B : Bs) (w0 : World) (n : Nat) (wr ps : List Nat) (assign body : Code) (Q : Exit → Act → World → Prop) (KS : Nat → Prop) (kv : Nat → Option Value) (l : Nat) (a : Act) (n0 : Nat) (rs : List Nat) (lp : Loop) (fr : Bool) (A : Tk.T) (ys : List A.den) (k : Nat) (T Z : Nat → Prop) (W : World) : Prop :=
  n0 ≤ W.heap.size ∧ (∀ b, T b → n0 ≤ b) ∧ W.heap[l]? = some (.loop lp) ∧ (∀ r ∈ rs, W.heap[r]? = some (.deferred (some []))) ∧
    ∃ x : Lst, lk x.2 rgK = some (.rg fr A ys k) ∧ SemF P B w0 n wr ps assign body Q (ys.length - k) x ∧ RR P B w0 KS kv l a (outE wr (mkSt x).env) (mkLoc x.2) T Z W W

/-- What it says where it has stopped. -/
def JX (P : Program) (B : Bs) (w0 : World) (n : Nat) (wr : List Nat) (Q : Exit → Act → World → Prop) (KS : Nat → Prop) (kv : Nat → Option Value) (l : Nat) (a : Act) (n0 : Nat) (rs : List Nat) (lp : Option Code → Loop) (T Z : Nat → Prop) (W : World) : Prop :=
  n0 ≤ W.heap.size ∧ (∀ b, T b → n0 ≤ b) ∧ (∀ r ∈ rs, W.heap[r]? = some (.deferred (some []))) ∧
    ∃ c e st, W.heap[l]? = some (.loop (lp (some c))) ∧ (c = .ret ∧ e = .ret ∨ ∃ j, c = .exit j ∧ e = .exit j) ∧ (∀ a w, Rel P B w0 n (outSt wr st) a w → Q e a w) ∧ RR P B w0 KS kv l a (outE wr st.env) st.loc T Z W W

theorem RR.grow (h : RR P B w0 KS kv l a env m T Z W W) (hj : B.j = none) {n0 : Nat} (hn : B.n ≤ n0) (h1 : n0 ≤ W.heap.size) (h2 : ∀ b, T b → n0 ≤ b) (hK : ∀ b, KS b → b < n0) (hg : Grow T W W') (hT : ∀ b, T' b → T b ∨ W.heap.size ≤ b) (hZ : ∀ b, Z' b → Z b ∨ T b ∨ W.heap.size ≤ b) :
    RR P B w0 KS kv l a env m T' Z' W' W' := by
  refine h.move hj hg.os hg.tape hg.output hg.size (Nat.le_refl _) (fun b hb hn => hg.block b hb.lt fun hT => hn ⟨hT, hb.lt⟩) (fun b hb => ?_) (fun b hb => ?_) (fun b hb => ?_) (fun b hb => ?_)
  · exact hg.block b (by omega) fun hT => by have := h2 b hT; omega
  · by_cases hlt : b < W.heap.size
    · exact .inl ⟨(hT b hb).resolve_right (by omega), hlt⟩
    · exact .inr (by omega)
  · by_cases hlt : b < W.heap.size
    · rcases hZ b hb with h | h | h
      · exact .inl ⟨.inl h, hlt⟩
      · exact .inl ⟨.inr h, hlt⟩
      · exact .inr h
    · exact .inr (by omega)
  · have := hK b hb; omega

theorem JJ.cl {n : Nat} {wr ps : List Nat} {assign body : Code} {Q : Exit → Act → World → Prop} {n0 : Nat} {rs : List Nat} {lp : Loop} {fr : Bool} {A : Tk.T} {ys : List A.den} (hj : B.j = none) (hn : B.n ≤ n0) (hK : ∀ b, KS b → b < n0) (hL : l < n0) (hrs : ∀ r ∈ rs, r < n0) (k : Nat) (T Z T' Z' : Nat → Prop) (W W' : World)
    (h : JJ P B w0 n wr ps assign body Q KS kv l a n0 rs lp fr A ys k T Z W) (hg : Grow T W W') (hT : ∀ b, T' b → T b ∨ W.heap.size ≤ b) (hZ : ∀ b, Z' b → Z b ∨ T b ∨ W.heap.size ≤ b) : JJ P B w0 n wr ps assign body Q KS kv l a n0 rs lp fr A ys k T' Z' W' := by
  obtain ⟨h1, h2, h3, h4, x, h5, h6, h7⟩ := h
  have old : ∀ b, b < n0 → W'.heap[b]? = W.heap[b]? := fun b hb => hg.block b (by omega) fun hT => by have := h2 b hT; omega
  exact ⟨Nat.le_trans h1 hg.size, fun b hb => (hT b hb).elim (h2 b) fun h => by omega, (old l hL).trans h3, fun r hr => (old r (hrs r hr)).trans (h4 r hr), x, h5, h6, h7.grow hj hn h1 h2 hK hg hT hZ⟩

theorem JX.cl {n : Nat} {wr : List Nat} {Q : Exit → Act → World → Prop} {n0 : Nat} {rs : List Nat} {lp : Option Code → Loop} (hj : B.j = none) (hn : B.n ≤ n0) (hK : ∀ b, KS b → b < n0) (hL : l < n0) (hrs : ∀ r ∈ rs, r < n0) (T Z T' Z' : Nat → Prop) (W W' : World)
    (h : JX P B w0 n wr Q KS kv l a n0 rs lp T Z W) (hg : Grow T W W') (hT : ∀ b, T' b → T b ∨ W.heap.size ≤ b) (hZ : ∀ b, Z' b → Z b ∨ T b ∨ W.heap.size ≤ b) : JX P B w0 n wr Q KS kv l a n0 rs lp T' Z' W' := by
  obtain ⟨h1, h2, h4, c, e, st, h3, h5, h6, h7⟩ := h
  have old : ∀ b, b < n0 → W'.heap[b]? = W.heap[b]? := fun b hb => hg.block b (by omega) fun hT => by have := h2 b hT; omega
  exact ⟨Nat.le_trans h1 hg.size, fun b hb => (hT b hb).elim (h2 b) fun h => by omega, fun r hr => (old r (hrs r hr)).trans (h4 r hr), c, e, st, (old l hL).trans h3, h5, h6, h7.grow hj hn h1 h2 hK hg hT hZ⟩

/-- The elements of a round's temporaries. -/
theorem bind_ok {B : Bs} {G : Nat → Gh} {m : Mem} {W : World} {fr : Bool} : ∀ (A : Tk.T) (ps : List Nat) (y : A.den) (vs : List Value) (tmps : Array Value) (env : Nat → V), A.noOwn = true → (∀ p ∈ ps, p < tmps.size) → ps.length = vs.length → (reps P A).v W (dS B G m fr) y vs [] → (∀ t, ERep P B G m W (env t) (tmps.getD t undef)) →
    (∀ t, ERep P B G m W (bindP ps A y fr env t) (((ps.zip vs).foldl (fun tmps (x : Nat × Value) => tmps.setIfInBounds x.1 x.2) tmps).getD t undef)) ∧ ((ps.zip vs).foldl (fun tmps (x : Nat × Value) => tmps.setIfInBounds x.1 x.2) tmps).size = tmps.size ∧
      ∀ t, t ∉ ps → ((ps.zip vs).foldl (fun tmps (x : Nat × Value) => tmps.setIfInBounds x.1 x.2) tmps).getD t undef = tmps.getD t undef
  | .nil, ps, y, vs, tmps, env, _, hp, hl, ⟨e, _⟩, he => by
    subst e
    obtain rfl : ps = [] := List.eq_nil_of_length_eq_zero hl
    exact ⟨he, rfl, fun _ _ => rfl⟩
  | .cons a b, [], y, vs, tmps, env, _, hp, hl, ⟨v, vs', b1, b2, e, _⟩, he => by subst e; simp at hl
  | .cons a b, p :: ps, y, vs, tmps, env, hno, hp, hl, ⟨v, vs', b1, b2, e, e2, h1, h2⟩, he => by
    subst e
    obtain ⟨rfl, rfl⟩ := List.append_eq_nil_iff.1 e2.symm
    have ho : ERep P B G m W (.d fr a y.1) v := by
      cases a
      case osl s => simp [T.noOwn] at hno
      all_goals exact h1.2
    have hps : p < tmps.size := hp p (by simp)
    have := bind_ok b ps y.2 vs' (tmps.setIfInBounds p v) (putEnv env (some p) (.d fr a y.1)) (by cases a <;> simp_all [T.noOwn]) (fun q hq => by simpa using hp q (by simp [hq])) (by simpa using hl) h2 (fun t => by
      by_cases e : p = t
      · subst e
        rw [putEnv_same]
        have : (tmps.setIfInBounds p v).getD p undef = v := by simp [hps]
        rw [this]; exact ho
      · rw [putEnv_ne (by simpa using e)]
        have : ((tmps.setIfInBounds p v).getD t undef) = tmps.getD t undef := by
          simp [Array.getElem?_setIfInBounds_ne e]
        rw [this]; exact he t)
    obtain ⟨q1, q2, q3⟩ := this
    refine ⟨q1, by simpa using q2, fun t ht => ?_⟩
    rw [List.zip_cons_cons, List.foldl_cons]
    rw [q3 t (fun h => ht (by simp [h]))]
    have e : p ≠ t := fun e => ht (by simp [e])
    simp [Array.getElem?_setIfInBounds_ne e]
  | .int, _, _, _, _, _, _, _, _, h, _ => h.elim
  | .bool, _, _, _, _, _, _, _, _, h, _ => h.elim
  | .sl _, _, _, _, _, _, _, _, _, h, _ => h.elim
  | .osl _, _, _, _, _, _, _, _, _, h, _ => h.elim
  | .ref _, _, _, _, _, _, _, _, _, h, _ => h.elim
  | .arr _ _, _, _, _, _, _, _, _, _, h, _ => h.elim
  | .fn _ _, _, _, _, _, _, _, _, _, h, _ => h.elim
  | .nsl _, _, _, _, _, _, _, _, _, h, _ => h.elim
  | .seq _ _, _, _, _, _, _, _, _, _, h, _ => h.elim

theorem v_len : ∀ (A : Tk.T) {w : World} {S : Nat → Prop} {y : A.den} {vs : List Value} {bs : List Nat}, (reps P A).v w S y vs bs → vs.length = arity A
  | .nil, _, _, _, _, _, ⟨e, _⟩ => by subst e; rfl
  | .cons a b, _, _, _, _, _, ⟨v, vs', b1, b2, e, _, _, h2⟩ => by subst e; simp [arity, v_len b h2]
  | .int, _, _, _, _, _, h => h.elim
  | .bool, _, _, _, _, _, h => h.elim
  | .sl _, _, _, _, _, _, h => h.elim
  | .osl _, _, _, _, _, _, h => h.elim
  | .ref _, _, _, _, _, _, h => h.elim
  | .arr _ _, _, _, _, _, _, h => h.elim
  | .fn _ _, _, _, _, _, _, h => h.elim
  | .nsl _, _, _, _, _, _, h => h.elim
  | .seq _ _, _, _, _, _, _, h => h.elim

theorem isC_ne {W : World} {b l : Nat} {o : Obj} (hb : isC W b) (hl : W.heap[l]? = some o) (ho : ∀ c e p, o ≠ .cells c e p) : b ≠ l := by
  rintro rfl
  obtain ⟨c, e, p, h⟩ := hb
  rw [h] at hl; cases hl
  exact ho c e p rfl

theorem fold_zip (ps : Array Tmp) (vs : List Value) (tmps : Array Value) : (ps.zip vs.toArray).foldl (fun tmps (x : Nat × Value) => tmps.setIfInBounds x.1 x.2) tmps = (ps.toList.zip vs).foldl (fun tmps (x : Nat × Value) => tmps.setIfInBounds x.1 x.2) tmps := by
  rw [← Array.foldl_toList, Array.toList_zip]

end

/-- A range over a function. -/
theorem rf_wp {P : Program} {B : Bs} {w0 : World} {n : Nat} {g : Operand} {ps : Array Tmp} {assign body : Code} {Q : Exit → Act → World → Prop} {a : Act} {w : World} {wr : List Nat} (hj : B.j = none) (hfo : ∀ b, ¬ (B.fo b ∨ B.kb b)) (hkv0 : ∀ t, B.kv t = none) (hro : B.ro = none) (hpw : ∀ p ∈ ps.toList, inN wr p = true)
    (sz : a.tmps.size = n) (hps : ∀ p ∈ ps.toList, p < n) (nd : Marks B.n a.defers w) {G : Nat → Gh} {x : Lst} {fr : Bool} {A : T} {F : (T.seq fr A).den} (hx : lk x.2 rgK = some (.rg fr A F.2 0)) (hno : A.noOwn = true) (har : ps.toList.length = arity A)
    (hm : MRel P B G (mkLoc x.2) w w0) (he : ∀ t, ERep P B G (mkLoc x.2) w ((mkSt x).env t) (a.tmps.getD t undef)) {gf : FuncId} {caps : List Value} {S : Nat → Prop} (hg : a.eval g = .func (.func gf) #[] caps.toArray) (hfun : FunOK P gf) (hS : ∀ b, S b → dS B G (mkLoc x.2) false b)
    (hseq : SeqOK P fr (reps P A) gf caps w S F) (hF : F.1) (hsem : SemF P B w0 n wr ps.toList assign body Q F.2.length x) : (Code.rangeFunc g ps assign body).wpIn (Fw B.ro) 0 P Q a w := by
  rw [hro]
  refine wpIn_rangeFunc ?_
  intro fn hfn
  obtain ⟨rec, hrec⟩ : ∃ rec : LoopState → Option Code → Loop, rec = fun st pe => { state := st, pending := pe, fn, tmps := a.tmps, params := ps, assign, body, defers := w.heap.size } := ⟨_, rfl⟩
  obtain ⟨W1, hW1⟩ : ∃ W1, (w.alloc (.deferred (some []))).alloc (.loop (rec .ready none)) = W1 := ⟨_, rfl⟩
  obtain ⟨L, hLdef⟩ : ∃ L, w.heap.size + 1 = L := ⟨_, rfl⟩
  have hL1 : W1.heap[L]? = some (.loop (rec .ready none)) := by
    rw [← hW1, ← hLdef]; have := World.alloc_heap_new (w.alloc (.deferred (some []))) (.loop (rec .ready none)); rwa [World.size_alloc] at this
  have hK1 : W1.heap[w.heap.size]? = some (.deferred (some [])) := by
    rw [← hW1]; exact (Below.heap_alloc _ _ _ (by simp)).trans (World.alloc_heap_new w _)
  have hb1 : Below w.heap.size w W1 := by
    rw [← hW1]; exact (((Below.refl _ w).alloc (Nat.le_refl _) _).alloc (by simp) _)
  have hLlt : L < W1.heap.size := (Array.getElem?_eq_some_iff.1 hL1).1
  have hDlt : w.heap.size < W1.heap.size := (Array.getElem?_eq_some_iff.1 hK1).1
  obtain ⟨rs, hrs0, hrs1, hrs2⟩ := nd
  have hrlt : ∀ r ∈ rs, r < w.heap.size := fun r hr => (Array.getElem?_eq_some_iff.1 (hrs2 r hr).2).1
  obtain ⟨KS, hKS⟩ : ∃ KS : Nat → Prop, KS = fun b => b < W1.heap.size ∧ ((b < w.heap.size ∧ S b) ∨ b = L ∨ b ∈ w.heap.size :: rs) := ⟨_, rfl⟩
  have hK : ∀ b, KS b → b < W1.heap.size := fun b h => by rw [hKS] at h; exact h.1
  have hKSS : ∀ b, b < w.heap.size → S b → KS b := fun b h1 h2 => by rw [hKS]; exact ⟨by omega, .inl ⟨h1, h2⟩⟩
  have hKSL : KS L := by rw [hKS]; exact ⟨hLlt, .inr (.inl rfl)⟩
  have hKSr : ∀ r ∈ w.heap.size :: rs, KS r := fun r hr => by
    rw [hKS]
    refine ⟨?_, .inr (.inr hr)⟩
    rcases List.mem_cons.1 hr with rfl | h
    · exact hDlt
    · have := hrlt r h; omega
  obtain ⟨kv, hkv⟩ : ∃ kv : Nat → Option Value, kv = fun t => match inN wr t with | true => none | false => some (a.tmps.getD t undef) := ⟨_, rfl⟩
  have hkvn : ∀ t, inN wr t = true → kv t = none := fun t h => by rw [hkv]; simp only [h]
  have hkvs : ∀ t v, kv t = some v → inN wr t = false ∧ v = a.tmps.getD t undef := fun t v h => by
    rw [hkv] at h
    simp only at h
    split at h
    · cases h
    · rename_i e; cases h; exact ⟨e, rfl⟩
  have hBn : B.n ≤ W1.heap.size := Nat.le_trans hm.base (by omega)
  have hrW : ∀ r ∈ w.heap.size :: rs, W1.heap[r]? = some (.deferred (some [])) := fun r hr => by
    rcases List.mem_cons.1 hr with rfl | h
    · exact hK1
    · exact (hb1.block r (hrlt r h)).trans (hrs2 r h).2
  have hrL : ∀ r ∈ w.heap.size :: rs, r ≠ L := fun r hr e => by
    have := hrW r hr
    rw [e, hL1] at this; cases this
  have hLn : ∀ (lp : Loop) c e p, Obj.loop lp ≠ .cells c e p := fun lp c e p h => by cases h
  -- the frame at its start
  have hRR0 : RR P B w0 KS kv L a (outE wr (mkSt x).env) (mkLoc x.2) (fun _ => False) (fun _ => False) W1 W1 := by
    obtain ⟨r1, r2⟩ := hm.re hj (w' := W1) (fo := fun b => False ∧ b < W1.heap.size) (kb := fun b => b < W1.heap.size ∧ (False ∨ KS b)) (tv := fun b => W1.heap[b]?) (kv := kv) (ro := some L) (lb := W1.heap.size) (Nat.le_refl _) hb1.os hb1.tape hb1.output hb1.size (fun b hb _ => hb1.block b hb.lt) (fun b hb => hb1.block b (Nat.lt_of_lt_of_le hb hm.base))
      (fun b _ h => h.1.elim) (fun b h => ⟨by rcases h with h | h; exact h.1.elim; exact h.1, rfl⟩) (fun b h hlt => .inr (by
        rcases h with h | ⟨_, h | h⟩
        · exact h.1.elim
        · exact h.elim
        · rw [hKS] at h
          rcases h.2 with h | h | h
          · exact (hS b h.2).2.1
          · omega
          · rcases List.mem_cons.1 h with h | h
            · omega
            · intro k g l hk hmut e
              rcases (hm.loc k g l hk).own_isC hmut e with hc | ⟨_, _, _, rfl⟩ | rfl
              · exact isC_ne hc (hrs2 b h).2 (fun _ _ _ h => by cases h) rfl
              · obtain ⟨_, _, _, _, j, e, _⟩ := hm.loc k g _ hk; rw [hj] at e; cases e
              · obtain ⟨_, _, _, j, e, _⟩ := hm.loc k g _ hk; rw [hj] at e; cases e))
    refine ⟨G, r1, fun t => ?_⟩
    unfold outE
    split
    · trivial
    · exact r2 (he t)
  refine ⟨L, [{ target := .collected w.heap.size, args := #[] }], W1, { target := .fn (.func gf) caps.toArray, args := #[.func (.yield L) #[] #[]] }, W1, gf,
    #[.func (.yield L) #[] #[]] ++ caps.toArray, W1, ?_, ?_, fun f' _ => trivial, ?_, fun h => (by cases h), ?_⟩
  · rw [← hW1, ← hLdef, hrec]; exact run_enterLoop_outer _ _ _ _ _
  · simp only [resolve, hg]
    simp [go_sem]
  · simp [invoke, go_sem, run_enter hfun]
  · refine (callsIn_wide (n := 0 - 1)).2 ?_
    have hc := hseq hF W1 ⟨hb1.size, fun b hb _ => hb1.block b hb.lt⟩ L ⟨fun k T Z W => JJ P B w0 n wr ps.toList assign body Q KS kv L a W1.heap.size (w.heap.size :: rs) (rec .ready none) fr A F.2 k T Z W, fun T Z W => JX P B w0 n wr Q KS kv L a W1.heap.size (w.heap.size :: rs) (fun c => rec .done c) T Z W,
      fun k T Z T' Z' W W' => JJ.cl hj hBn hK hLlt (fun r hr => hK r (hKSr r hr)) k T Z T' Z' W W', fun T Z T' Z' W W' => JX.cl hj hBn hK hLlt (fun r hr => hK r (hKSr r hr)) T Z T' Z' W W'⟩ ?_ ?_
    · refine hc.mono ?_
      rintro e W2 ⟨⟨v, rfl⟩, T, Z, hT, hZ, hJ | hJ⟩
      · -- behind the last element
        obtain ⟨h1, h2, hl, hr, xk, hxk, hsk, G2, hm2, he2⟩ := hJ
        obtain ⟨lp4, hend⟩ : ∃ lp4, (Instr.endLoop L).run P W2 = .ok none (W2.putObj L (.loop lp4)) := ⟨_, (run_endLoop (P := P) hl (by rw [hrec]; simp)).trans (congrArg (fun p => Result.ok p _) (show (rec .ready none).pending = none by rw [hrec]))⟩
        refine ⟨none, _, hend, ?_⟩
        rw [Nat.sub_self] at hsk
        refine hsk _ _ ?_
        obtain ⟨r1, r2⟩ := hm2.re (w' := W2.putObj L (.loop lp4)) hj (fo := B.fo) (kb := B.kb) (tv := B.tv) (kv := B.kv) (ro := B.ro) (lb := B.lb) (Nat.le_trans hm.lbd (Nat.le_trans hb1.size (Nat.le_trans h1 (by simp)))) rfl rfl rfl (by simp) (fun b hb _ => World.putObj_heap_other (isC_ne hb hl (hLn _))) (fun b hb => World.putObj_heap_other (by
            have : b < B.n := hb
            have := hm.base; omega)) (fun b _ h => (hfo b (.inl h)).elim) (fun b h => (hfo b h).elim) (fun b h => (hfo b h).elim)
        refine ⟨⟨G2, r1, fun t => r2 (he2 t)⟩, sz, ⟨⟨w.heap.size :: rs, by rw [hrs0]; rfl, ?_, fun r hr' => ⟨?_, ?_⟩⟩, fun e => by rw [hj] at e; cases e⟩, fun t v e => by rw [hkv0] at e; cases e⟩
        · exact List.nodup_cons.2 ⟨fun h => by have := hrlt _ h; omega, hrs1⟩
        · rcases List.mem_cons.1 hr' with rfl | h
          · exact hm.base
          · exact (hrs2 r h).1
        · exact (World.putObj_heap_other (hrL r hr')).trans (hr r hr')
      · -- behind a jump
        obtain ⟨h1, h2, hr, c, e, st3, hl, hce, hq, G2, hm2, he2⟩ := hJ
        obtain ⟨lp4, hend⟩ : ∃ lp4, (Instr.endLoop L).run P W2 = .ok (some c) (W2.putObj L (.loop lp4)) := ⟨_, (run_endLoop (P := P) hl (by rw [hrec]; simp)).trans (congrArg (fun p => Result.ok p _) (show (rec .done (some c)).pending = some c by rw [hrec]))⟩
        refine ⟨some c, _, hend, ?_⟩
        have hR := hq { a with defers := [{ target := .collected w.heap.size, args := #[] }] ++ a.defers } (W2.putObj L (.loop lp4)) (by
          obtain ⟨r1, r2⟩ := hm2.re (w' := W2.putObj L (.loop lp4)) hj (fo := B.fo) (kb := B.kb) (tv := B.tv) (kv := B.kv) (ro := B.ro) (lb := B.lb) (Nat.le_trans hm.lbd (Nat.le_trans hb1.size (Nat.le_trans h1 (by simp)))) rfl rfl rfl (by simp) (fun b hb _ => World.putObj_heap_other (isC_ne hb hl (hLn _))) (fun b hb => World.putObj_heap_other (by
              have : b < B.n := hb
              have := hm.base; omega)) (fun b _ h => (hfo b (.inl h)).elim) (fun b h => (hfo b h).elim) (fun b h => (hfo b h).elim)
          refine ⟨⟨G2, r1, fun t => r2 (he2 t)⟩, sz, ⟨⟨w.heap.size :: rs, by rw [hrs0]; rfl, ?_, fun r hr' => ⟨?_, ?_⟩⟩, fun e => by rw [hj] at e; cases e⟩, fun t v e => by rw [hkv0] at e; cases e⟩
          · exact List.nodup_cons.2 ⟨fun h => by have := hrlt _ h; omega, hrs1⟩
          · rcases List.mem_cons.1 hr' with rfl | h
            · exact hm.base
            · exact (hrs2 r h).1
          · exact (World.putObj_heap_other (hrL r hr')).trans (hr r hr'))
        rcases hce with ⟨rfl, rfl⟩ | ⟨j, rfl, rfl⟩
        · exact wpIn_ret hR
        · exact wpIn_exit hR
    · -- one round
      intro k T Z Wy vs y S1 hy hJ hT hZ hv hS1
      obtain ⟨h1, h2, hl, hr, xk, hxk, hsk, hrr⟩ := hJ
      have hlen : ps.toList.length = vs.length := by rw [har, v_len A hv]
      obtain ⟨M, hM⟩ : ∃ M, F.2.length - k = M + 1 := ⟨F.2.length - k - 1, by have := (List.getElem?_eq_some_iff.1 hy).1; omega⟩
      rw [hM] at hsk
      have hyld := run_yield (P := P) (args := vs.toArray) hl (by rw [hrec]; simp; simpa using hlen.symm)
      rw [hrec] at hyld
      have hrec2 : rec .ready none = { state := .ready, pending := none, fn, tmps := a.tmps, params := ps, assign, body, defers := w.heap.size } := by rw [hrec]
      refine ⟨fn, _, assign, body, hyld, roundIn_of_wpIn (F := Fence.wide) trivial ?_⟩
      obtain ⟨T0, hT0⟩ : ∃ T0 : Nat → Prop, T0 = fun b => T b ∧ b < Wy.heap.size := ⟨_, rfl⟩
      obtain ⟨Z0, hZ0⟩ : ∃ Z0 : Nat → Prop, Z0 = fun b => Z b ∧ b < Wy.heap.size := ⟨_, rfl⟩
      have hT0l : ∀ b, T0 b → b < Wy.heap.size := fun b h => by rw [hT0] at h; exact h.2
      have hT0T : ∀ b, T0 b → T b := fun b h => by rw [hT0] at h; exact h.1
      have hZ0l : ∀ b, Z0 b → b < Wy.heap.size := fun b h => by rw [hZ0] at h; exact h.2
      have hKy : ∀ b, KS b → b < Wy.heap.size := fun b h => Nat.lt_of_lt_of_le (hK b h) h1
      obtain ⟨G2, hm2, he2⟩ := hrr.move (T' := T0) (Z' := Z0) (W' := Wy) hj rfl rfl rfl (Nat.le_refl _) (Nat.le_refl _) (fun _ _ _ => rfl) (fun _ _ => rfl) (fun b h => .inl ⟨hT0T b h, hT0l b h⟩) (fun b h => .inl (by rw [hZ0] at h; exact ⟨.inl h.1, h.2⟩)) hKy
      have hvd : (reps P A).v Wy (dS (Brd B KS kv L T0 Z0 Wy) G2 (mkLoc xk.2) fr) y vs [] := v_keep A hv (Keep.refl _ _) fun b hb h => by
        rcases hS1 b h with h | ⟨hfr, h⟩
        · have hz := hZ b h
          refine ⟨⟨fun _ => Nat.le_trans hBn hz.1, .inl (Nat.le_trans hBn hz.1)⟩, fun k g l hk hmut e => hm2.frn.2 k g l b hk hmut e (.inr ⟨hb, .inl (by rw [hZ0]; exact ⟨h, hb⟩)⟩), fun ht => hz.2 (hT0T b ht.1)⟩
        · refine ⟨⟨fun e => (by rw [hfr] at e; cases e), (hS b h.2).1.2⟩, fun k g l hk hmut e => hm2.frn.2 k g l b hk hmut e (.inr ⟨hb, .inr (hKSS b h.1 h.2)⟩), fun ht => by have := hT b (hT0T b ht.1); omega⟩
      obtain ⟨q1, q2, q3⟩ := bind_ok A ps.toList y vs a.tmps (outE wr (mkSt xk).env) hno (fun p hp => by rw [sz]; exact hps p hp) hlen hvd he2
      have hsy := hsk fr A F.2 k y hxk hy KS kv L T0 Z0 Wy { tmps := (ps.zip vs.toArray).foldl (fun tmps (x : Nat × Value) => tmps.setIfInBounds x.1 x.2) a.tmps, defers := [] } hkvn (by
        rw [fold_zip]
        refine ⟨⟨G2, hm2, q1⟩, q2.trans sz, ⟨Marks.nil _ _, fun _ => rfl⟩, fun t v e => ?_⟩
        obtain ⟨e1, rfl⟩ := hkvs t v e
        exact q3 t fun h => by rw [hpw t h] at e1; cases e1)
      refine wpIn_mono hsy ?_
      -- what stays in a round
      have stay : ∀ {Wa Wb : World} {st : St} {a1 : Act}, Rel P (Brd B KS kv L T0 Z0 Wa) w0 n st a1 Wb → Wy.heap.size ≤ Wa.heap.size → ∀ b, T0 b ∨ Z0 b ∨ KS b → b < Wb.heap.size ∧ Wb.heap[b]? = Wa.heap[b]? := by
        intro Wa Wb st a1 hR hle b h
        obtain ⟨G3, hm3, _⟩ := hR.ex
        refine hm3.frn.1 b ?_
        rcases h with h | h | h
        · exact .inl ⟨h, Nat.lt_of_lt_of_le (hT0l b h) hle⟩
        · exact .inr ⟨Nat.lt_of_lt_of_le (hZ0l b h) hle, .inl h⟩
        · exact .inr ⟨Nat.lt_of_lt_of_le (hKy b h) hle, .inr h⟩
      have grown : ∀ {Wa Wb : World} {st : St} {a1 : Act}, Rel P (Brd B KS kv L T0 Z0 Wa) w0 n st a1 Wb → Wa.heap.size ≤ Wb.heap.size := by
        intro Wa Wb st a1 hR
        obtain ⟨G3, hm3, _⟩ := hR.ex
        exact hm3.lbd
      -- the record changes
      have put : ∀ {Wa Wb : World} {env : Nat → V} {mm : Mem} {a1 : Act} {lp : Loop} (lp' : Loop), RR P B w0 KS kv L a1 env mm T0 Z0 Wa Wb → Wy.heap.size ≤ Wa.heap.size → Wa.heap.size ≤ Wb.heap.size → Wb.heap[L]? = some (.loop lp) →
          RR P B w0 KS kv L a1 env mm T0 Z0 (Wb.putObj L (.loop lp')) (Wb.putObj L (.loop lp')) := by
        intro Wa Wb env mm a1 lp lp' hRR hle hle2 hlb
        refine hRR.move hj rfl rfl rfl (by simp) hle2 (fun b hb _ => World.putObj_heap_other (isC_ne hb hlb (hLn _))) (fun b hb => World.putObj_heap_other (by
          have := hm.base; omega)) (fun b h => .inl ⟨h, Nat.lt_of_lt_of_le (hT0l b h) hle⟩) (fun b h => .inl ⟨.inl h, Nat.lt_of_lt_of_le (hZ0l b h) hle⟩) fun b h => Nat.lt_of_lt_of_le (hKy b h) hle
      have mput : ∀ {ds : List Deferred} {Wb : World} {lp : Loop} (lp' : Loop), Marks B.n ds Wb → Wb.heap[L]? = some (.loop lp) → Marks B.n ds (Wb.putObj L (.loop lp')) := by
        rintro ds Wb lp lp' ⟨rs', e1, e2, e3⟩ hlb
        refine ⟨rs', e1, e2, fun r hr => ⟨(e3 r hr).1, (World.putObj_heap_other fun e => ?_).trans (e3 r hr).2⟩⟩
        have := (e3 r hr).2
        rw [e, hlb] at this; cases this
      rintro e a1 W1' hq
      cases e with
      | normal =>
        obtain ⟨st1, hR1, hbody⟩ := hq
        have hs1 := grown hR1
        have hl1 : W1'.heap[L]? = some (.loop (rec .ready none)) := (stay hR1 (Nat.le_refl _) L (.inr (.inr hKSL))).2.trans hl
        have hL1lt := (Array.getElem?_eq_some_iff.1 hl1).1
        have hbr := run_beginRound (P := P) hl1 (by rw [hrec])
        obtain ⟨lpb, hlpb⟩ : ∃ lpb : Loop, lpb = { rec .ready none with state := .busy } := ⟨_, rfl⟩
        rw [← hlpb] at hbr
        obtain ⟨W2, hW2⟩ : ∃ W2, W2 = W1'.putObj L (.loop lpb) := ⟨_, rfl⟩
        rw [← hW2] at hbr
        have hsz2 : W2.heap.size = W1'.heap.size := by rw [hW2]; simp
        have hl2 : W2.heap[L]? = some (.loop lpb) := by rw [hW2]; exact World.putObj_heap_same hL1lt
        have hR2 : Rel P (Brd B KS kv L T0 Z0 W2) w0 n st1 a1 W2 := by
          obtain ⟨G3, b1, b2⟩ := put lpb hR1.ex (Nat.le_refl _) hs1 hl1
          rw [← hW2] at b1 b2
          refine ⟨⟨G3, b1, b2⟩, hR1.sz, ⟨?_, hR1.nd.2⟩, hR1.kp⟩
          rw [hW2]; exact mput lpb hR1.nd.1 hl1
        refine ⟨W2, hbr, wpIn_mono (hbody W2 hR2) ?_⟩
        have h2le : Wy.heap.size ≤ W2.heap.size := by omega
        rintro e a3 W3 ⟨st3, hR3, hq3⟩
        have hs3 := grown hR3
        have hl3 : W3.heap[L]? = some (.loop lpb) := (stay hR3 h2le L (.inr (.inr hKSL))).2.trans hl2
        have hL3lt := (Array.getElem?_eq_some_iff.1 hl3).1
        have same : ∀ b, T0 b ∨ Z0 b ∨ KS b → b ≠ L → W3.heap[b]? = Wy.heap[b]? := by
          intro b hb hne
          rw [(stay hR3 h2le b hb).2, hW2, World.putObj_heap_other hne]
          exact (stay hR1 (Nat.le_refl _) b hb).2
        -- the end of the round
        have fin : ∀ jump : Option Code, ∃ v W4, (Instr.endRound L jump).run P W3 = .ok v W4 ∧ v = .bool jump.isNone ∧ W4 = W3.putObj L (.loop (rec (if jump.isNone then .ready else .done) jump)) := by
          intro jump
          refine ⟨_, _, run_endRound (P := P) jump hl3, rfl, ?_⟩
          rw [hlpb, hrec]
        have keep4 : ∀ lp4 : Loop, Keep (fun b => (b < w.heap.size ∧ S b) ∨ T b ∨ Z b) Wy (W3.putObj L (.loop lp4)) := by
          intro lp4
          refine ⟨by simp; omega, fun b hb hS => ?_⟩
          have hne : b ≠ L := isC_ne hb hl (hLn _)
          rw [World.putObj_heap_other hne]
          refine same b ?_ hne
          rcases hS with h | h | h
          · exact .inr (.inr (hKSS b h.1 h.2))
          · exact .inl (by rw [hT0]; exact ⟨h, hb.lt⟩)
          · exact .inr (.inl (by rw [hZ0]; exact ⟨h, hb.lt⟩))
        have rr4 : ∀ lp4 : Loop, RR P B w0 KS kv L a (outE wr st3.env) st3.loc T0 Z0 (W3.putObj L (.loop lp4)) (W3.putObj L (.loop lp4)) := by
          intro lp4
          refine put lp4 ?_ h2le hs3 hl3
          obtain ⟨G3, b1, b2⟩ := hR3.ex
          refine ⟨G3, b1, fun t => ?_⟩
          unfold outE
          split
          · trivial
          · rename_i ht
            have := b2 t
            rw [hR3.kp t (a.tmps.getD t undef) (by show kv t = _; rw [hkv]; simp only [ht])] at this
            exact this
        have base4 : ∀ lp4 : Loop, W1.heap.size ≤ (W3.putObj L (.loop lp4)).heap.size ∧ (∀ r ∈ w.heap.size :: rs, (W3.putObj L (.loop lp4)).heap[r]? = some (.deferred (some []))) := fun lp4 =>
          ⟨by simp; omega, fun r hr' => by
            rw [World.putObj_heap_other (hrL r hr'), same r (.inr (.inr (hKSr r hr'))) (hrL r hr')]
            exact hr r hr'⟩
        have hT0n : ∀ b, T0 b → W1.heap.size ≤ b := fun b h => hT b (hT0T b h)
        rw [hT0] at rr4 hT0n
        rw [hZ0] at rr4
        have jumps : ∀ (c : Code) (e : Exit), (c = .ret ∧ e = .ret ∨ ∃ j, c = .exit j ∧ e = .exit j) → (∀ a w, Rel P B w0 n (outSt wr st3) a w → Q e a w) → ∃ v W4, (Instr.endRound L (some c)).run P W3 = .ok v W4 ∧ Keep (fun b => (b < w.heap.size ∧ S b) ∨ T b ∨ Z b) Wy W4 ∧
            ((Ending.returned v = .returned (.bool true) ∧ JJ P B w0 n wr ps.toList assign body Q KS kv L a W1.heap.size (w.heap.size :: rs) (rec .ready none) fr A F.2 (k + 1) (fun b => T b ∧ b < Wy.heap.size) (fun b => Z b ∧ b < Wy.heap.size) W4) ∨
              (Ending.returned v = .returned (.bool false) ∧ JX P B w0 n wr Q KS kv L a W1.heap.size (w.heap.size :: rs) (fun c => rec .done c) (fun b => T b ∧ b < Wy.heap.size) (fun b => Z b ∧ b < Wy.heap.size) W4)) := by
          intro c e hce hq
          obtain ⟨v, W4, f1, f2, f3⟩ := fin (some c)
          refine ⟨v, W4, f1, by rw [f3]; exact keep4 _, .inr ⟨by rw [f2]; rfl, ?_⟩⟩
          have f3 : W4 = W3.putObj L (.loop (rec .done (some c))) := f3
          rw [f3]
          exact ⟨(base4 _).1, hT0n, (base4 _).2, c, e, st3, World.putObj_heap_same hL3lt, hce, hq, rr4 _⟩
        cases e with
        | normal =>
          obtain ⟨v, W4, f1, f2, f3⟩ := fin none
          refine ⟨v, W4, f1, by rw [f3]; exact keep4 _, .inl ⟨by rw [f2]; rfl, ?_⟩⟩
          have f3 : W4 = W3.putObj L (.loop (rec .ready none)) := f3
          rw [f3]
          obtain ⟨x', hx', hs', rfl⟩ := hq3
          refine ⟨(base4 _).1, hT0n, World.putObj_heap_same hL3lt, (base4 _).2, x', hx', ?_, rr4 _⟩
          rw [show F.2.length - (k + 1) = M by omega]
          exact hs'
        | ret => exact jumps .ret .ret (.inl ⟨rfl, rfl⟩) hq3
        | exit j => exact jumps (.exit j) (.exit j) (.inr ⟨j, rfl, rfl⟩) hq3
        | _ => exact hq3.elim
      | _ => exact hq.elim
    · exact ⟨Nat.le_refl _, fun _ h => h.elim, hL1, hrW, x, hx, hsem, hRR0⟩

end Go.Tk
