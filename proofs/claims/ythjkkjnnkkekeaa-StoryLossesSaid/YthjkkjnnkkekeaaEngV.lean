/- The engine, part V: an iterator calls yield. No conditions. -/
import Derived.Test.YthjkkjnnkkekeaaEngU
set_option linter.unusedSimpArgs false
set_option linter.unusedVariables false
namespace Go.Tk
open Go Go.RowKit

/-- What is handed over, kept. -/
def gatherS (Γ : List (Nat × Con)) (fr : Bool) : (A : T) → Mem → List V → Option (A.den × List (Nat × Nat × L))
  | .nil, _, [] => some ((), [])
  | .cons a b, m, v :: vs => match stor Γ m a v with
    | some (f, x, u) => match f || a.flat || !fr with
      | true => match gatherS Γ fr b (putLoc m u) vs with
        | some (y, u') => some ((x, y), u ++ u')
        | none => none
      | false => none
    | none => none
  | _, _, _ => none

section
variable {P : Program} {B : Bs} {G : Nat → Gh} {m : Mem} {w w0 : World} {cx : Cx}

theorem gatherS_spec (hk : Cok P cx) {fr : Bool} : ∀ (A : T) (vs : List V) (vals : List Value) (m : Mem) (y : A.den) (us : List (Nat × Nat × L)), gatherS cx.Γ fr A m vs = some (y, us) → MRel P B G m w w0 → ERs P B G m w vs vals →
    MRel P B G (putLoc m us) w w0 ∧ Ext B G m w G (putLoc m us) w ∧ (reps P A).v w (dS B G (putLoc m us) fr) y vals []
  | .nil, [], [], m, y, us, h, hm, _ => by cases h; exact ⟨hm, Ext.refl, rfl, rfl⟩
  | .nil, [], _ :: _, _, _, _, _, _, h => h.elim
  | .nil, _ :: _, _, _, _, _, h, _, _ => by simp [gatherS] at h
  | .cons a b, [], _, _, _, _, h, _, _ => by simp [gatherS] at h
  | .cons a b, v :: vs, [], _, _, _, _, _, h => h.elim
  | .cons a b, v :: vs, u :: vals, m, y, us, h, hm, ⟨hv, hl⟩ => by
    unfold gatherS at h
    split at h
    · rename_i f x u1 hst
      split at h
      · rename_i hf
        split at h
        · rename_i y2 u2 hg
          cases h
          obtain ⟨r1, r2, cs, rfl, hc⟩ := stor_spec hk hm (fun _ _ h => h) hst hv
          have hl' : ∀ (l : List V) (vals : List Value), ERs P B G m w l vals → ERs P B G (putLoc m u1) w l vals := by
            intro l
            induction l with
            | nil => intro vals h; cases vals <;> exact h
            | cons v l ih => intro vals h; cases vals with
              | nil => exact h.elim
              | cons u vals => exact ⟨h.1.ext r2, ih _ h.2⟩
          obtain ⟨s1, s2, s3⟩ := gatherS_spec hk b vs vals (putLoc m u1) y2 u2 hg r1 (hl' _ _ hl)
          rw [putLoc_append]
          refine ⟨s1, r2.trans s2, _, vals, [], [], rfl, rfl, o_of_c ?_, s3⟩
          have hc := s2.c hc
          cases hfl : a.flat
          · refine c_and hc fun e => ?_
            subst e
            rw [hfl] at hf
            simpa using hf
          · exact c_flat a hfl hc
        · cases h
      · cases h
    · cases h
  | .int, _, _, _, _, _, h, _, _ => by simp [gatherS] at h
  | .bool, _, _, _, _, _, h, _, _ => by simp [gatherS] at h
  | .sl _, _, _, _, _, _, h, _, _ => by simp [gatherS] at h
  | .osl _, _, _, _, _, _, h, _, _ => by simp [gatherS] at h
  | .ref _, _, _, _, _, _, h, _, _ => by simp [gatherS] at h
  | .arr _ _, _, _, _, _, _, h, _, _ => by simp [gatherS] at h
  | .fn _ _, _, _, _, _, _, h, _, _ => by simp [gatherS] at h
  | .nsl _, _, _, _, _, _, h, _, _ => by simp [gatherS] at h
  | .seq _ _, _, _, _, _, _, h, _, _ => by simp [gatherS] at h

theorem Grow.refl (T : Nat → Prop) (w : World) : Grow T w w := ⟨rfl, rfl, rfl, Nat.le_refl _, fun _ _ _ => rfl⟩

/-- The blocks that an iterator writes to no more. -/
def hzOf (B : Bs) (G : Nat → Gh) (m : Mem) (w : World) (b : Nat) : Prop := b < w.heap.size ∧ B.n ≤ b ∧ dS B G m false b

/-- Behind a call of yield: only blocks of who ranges, and new ones, are other ones. -/
theorem yield_ext (hm : MRel P B G m w w0) {g : Nat} {l l' : L} (hk : m itK = some (g, l)) (hit : l.isIt = true) (hit' : l'.isIt = true) (hlo : B.lo = false) (hfo : ∀ b, ¬ (B.fo b ∨ B.kb b)) {W2 : World}
    (hkeep : Keep (fun b => B.S b ∨ (B.n ≤ b ∧ ¬ (G itK).ex b ∧ ¬ hzOf B G m w b) ∨ hzOf B G m w b) w W2) {gk : Gh} (hgk : gk = ⟨(G itK).hdr, (G itK).blk, (G itK).ih, (G itK).ib, fun b => (G itK).ex b ∨ (w.heap.size ≤ b ∧ b < W2.heap.size), hzOf B G m w⟩)
    (hl : (∀ b, gk.ex b → B.n ≤ b ∧ b < W2.heap.size) → (∀ b, gk.hz b → b < W2.heap.size ∧ B.n ≤ b ∧ dS B (setG G itK gk) (set1 m itK g l') false b) → LRep P B (setG G itK gk) (set1 m itK g l') W2 itK l') :
    MRel P B (setG G itK gk) (set1 m itK g l') W2 w0 ∧ ExtD B G m w (setG G itK gk) (set1 m itK g l') W2 := by
  have hl0 := hm.loc itK g l hk
  have hex : ∀ b, (G itK).ex b ↔ ownL (G itK) l b := by
    intro b
    cases l <;> first | (cases hit; done) | exact Iff.rfl
  have hmut : l.mut = true := by cases l <;> first | (cases hit; done) | rfl
  have hmut' : l'.mut = true := by cases l' <;> first | (cases hit'; done) | rfl
  have hex' : ∀ b, ownL gk l' b ↔ (G itK).ex b ∨ (w.heap.size ≤ b ∧ b < W2.heap.size) := by
    intro b
    cases l' <;> first | (cases hit'; done) | (rw [hgk]; exact Iff.rfl)
  have others : ∀ k g l, m k = some (g, l) → k ≠ itK → l.isIt = false := by
    intro k g l hk hne
    have := hm.loc k g l hk
    cases l <;> try rfl
    · exact absurd this.1 hne
    · exact absurd this.1 hne
  have sub : ∀ f b, b < w.heap.size → dS B G m f b → dS B (setG G itK gk) (set1 m itK g l') f b := by
    intro f b hlt hd
    refine ⟨hd.1, fun k g2 l2 hk2 hmut2 e => ?_, hd.2.2⟩
    rcases set1_cases hk2 with ⟨rfl, e1⟩ | ⟨hne, hk2⟩
    · cases e1
      rw [setG_same, hex'] at e
      rcases e with e | e
      · exact hd.2.1 _ _ _ hk hmut ((hex b).1 e)
      · omega
    · rw [setG_other _ _ hne] at e
      exact hd.2.1 _ _ _ hk2 hmut2 e
  have he : ExtD B G m w (setG G itK gk) (set1 m itK g l') W2 := by
    refine ⟨fun f => ⟨hkeep.1, fun b hb hd => hkeep.2 b hb ?_⟩, sub, fun k g2 l2 hk2 => ?_⟩
    · by_cases hn : B.n ≤ b
      · exact .inr (.inr ⟨hb.lt, hn, ⟨⟨fun e => (by cases e), hd.1.2⟩, hd.2⟩⟩)
      · exact .inl (hd.1.2.resolve_left hn)
    · by_cases e : k = itK
      · subst e
        rw [hk] at hk2; cases hk2
        refine ⟨g, l', set1_same .., Nat.le_refl _, fun _ => ?_⟩
        rw [setG_same, hgk]
        cases l <;> first | (cases hit; done) | skip
        all_goals (cases l' <;> first | (cases hit'; done) | skip)
        all_goals exact ⟨fun _ _ h => h.elim, rfl, fun _ _ _ h => h.elim, fun _ _ _ h => h.elim, fun _ _ _ _ h => h.elim⟩
      · exact ⟨g2, l2, by rw [set1_other _ _ _ (Ne.symm e)]; exact hk2, Nat.le_refl _, fun _ => by rw [setG_other _ _ e]; exact .refl _ _⟩
  refine ⟨⟨fun h => (by rw [hlo] at h; cases h), Nat.le_trans hm.base hkeep.1, ?_, ?_, ⟨fun b h => (hfo b h).elim, fun _ _ _ b _ _ _ h => hfo b h⟩, Nat.le_trans hm.lbd hkeep.1⟩, he⟩
  · intro k g2 l2 hk2
    rcases set1_cases hk2 with ⟨rfl, e1⟩ | ⟨hne, hk2⟩
    · cases e1
      refine hl (fun b hb => ?_) fun b hb => ?_
      · rw [hgk] at hb
        rcases hb with hb | hb
        · have := hm.loc itK g l hk
          have := this.own_lt hmut ((hex b).1 hb)
          exact ⟨this.2, Nat.lt_of_lt_of_le this.1 hkeep.1⟩
        · exact ⟨Nat.le_trans hm.base hb.1, hb.2⟩
      · rw [hgk] at hb
        have hb : hzOf B G m w b := hb
        exact ⟨Nat.lt_of_lt_of_le hb.1 hkeep.1, hb.2.1, sub false b hb.1 hb.2.2⟩
    · refine (hm.loc k g2 l2 hk2).extD he (setG_other _ _ hne) (others k g2 l2 hk2 hne) fun hmut2 b e => ?_
      have hc : isC w b := by
        rcases (hm.loc k g2 l2 hk2).own_isC hmut2 e with h | ⟨_, _, _, rfl⟩ | rfl
        · exact h
        · have := others k g2 _ hk2 hne; cases this
        · have := others k g2 _ hk2 hne; cases this
      refine hkeep.2 b hc (.inr (.inl ⟨((hm.loc k g2 l2 hk2).own_lt hmut2 e).2, fun hx => ?_, fun hz => ?_⟩))
      · exact hne (hm.inj k itK g2 g l2 l b hk2 hk hmut2 hmut e ((hex b).1 hx))
      · exact hz.2.2.2.1 k g2 l2 hk2 hmut2 e
  · have key : ∀ k g2 l2 b, k ≠ itK → m k = some (g2, l2) → l2.mut = true → ownL (G k) l2 b → ownL gk l' b → False := by
      intro k g2 l2 b hne hk2 hmut2 e e'
      rcases (hex' b).1 e' with h | h
      · exact hne (hm.inj k itK g2 g l2 l b hk2 hk hmut2 hmut e ((hex b).1 h))
      · have := ((hm.loc k g2 l2 hk2).own_lt hmut2 e).1; omega
    intro k k' g2 g3 l2 l3 b hk2 hk3 m2 m3 e e'
    rcases set1_cases hk2 with ⟨q1, e1⟩ | ⟨hne, hk2'⟩ <;> rcases set1_cases hk3 with ⟨q2, e2⟩ | ⟨hne', hk3'⟩
    · rw [q1, q2]
    · cases e1
      rw [q1, setG_same] at e; rw [setG_other _ _ hne'] at e'
      exact (key k' g3 l3 b hne' hk3' m3 e' e).elim
    · cases e2
      rw [q2, setG_same] at e'; rw [setG_other _ _ hne] at e
      exact (key k g2 l2 b hne hk2' m2 e e').elim
    · rw [setG_other _ _ hne] at e; rw [setG_other _ _ hne'] at e'
      exact hm.inj k k' g2 g3 l2 l3 b hk2' hk3' m2 m3 e e'

end

/-! ### Regions with a yield -/
def yCall (st : St) (o : Oper) : Option (List V) := match o.op with
  | .call c => match c.callee with
    | .value f => match st.eval f with
      | .yld => some (c.args.toList.map st.eval)
      | _ => none
    | _ => none
  | _ => none

def yGo (cx : Cx) (fr : Bool) : List Oper → St → (St → Prop) → Prop
  | [], st, Q => Q st
  | o :: l, st, Q => match o.guard with
    | some _ => False
    | none => match yCall st o with
      | some args => match o.dst, st.loc itK with
        | some d, some (_, .it A _ _) => match Nat.ble (d + 1) cx.n, gatherS cx.Γ fr A st.loc args with
          | true, some (y, us) => match putLoc st.loc us itK with
            | some (g, .it A2 ys k) => if h : A.beq A2 = true then ys[k]? = some (castT (pf h) y) ∧
                yGo cx fr l ⟨putEnv st.env (some d) (.d true .bool true), set1 (putLoc st.loc us) itK g (.it A2 ys (k + 1))⟩ Q ∧
                yGo cx fr l ⟨putEnv st.env (some d) (.d true .bool false), set1 (putLoc st.loc us) itK g .itx⟩ Q else False
            | _ => False
          | _, _ => False
        | _, _ => False
      | none => match stepE cx o st with
        | some e => gnd o e (yGo cx fr l (st.upd o e) Q)
        | none => False

section
variable {P : Program} {B : Bs} {w0 : World} {cx : Cx}

/-- What an iterator's frame stands in. -/
structure ItB (P : Program) (B : Bs) (fr : Bool) : Prop where
  lo : B.lo = false
  fo : ∀ b, ¬ (B.fo b ∨ B.kb b)
  kv : ∀ t, B.kv t = none
  ro : B.ro = none
  lb : B.lb = 0
  y : ∃ j, B.j = some j ∧ YieldOK P fr (reps P B.ys.1) B.S B.n B.l j B.ys.2

theorem run_yield_call {o : Oper} {c : Call} {f : Operand} {l : Nat} {a : Act} {w : World} (h1 : o.op = .call c) (h2 : c.callee = .value f) (h3 : a.eval f = .func (.yield l) #[] #[]) {r : Result Next} (h4 : (Instr.yield l (c.args.toList.map a.eval).toArray).run P w = r) : (execOp a.eval o).run P w = r := by
  obtain ⟨dst, op, ty, pos, after, guard⟩ := o
  obtain ⟨callee, args, argTypes⟩ := c
  simp only at h1 h2
  subst h1
  subst h2
  have hargs : args.map a.eval = (args.toList.map a.eval).toArray := by simp [← Array.toList_map]
  have : (execOp a.eval ⟨dst, .call ⟨.value f, args, argTypes⟩, ty, pos, after, guard⟩).run P w = (Instr.yield l (args.toList.map a.eval).toArray).run P w := by
    simp only [execOp, resolve]
    rw [hargs, h3]
    simp [Deferred.ofValue, invoke, go_sem]
  rw [this, h4]

theorem yield_wp (hk : Cok P cx) {fr : Bool} (hB : ItB P B fr) {o : Oper} {d : Nat} (hd : o.dst = some d) (hdn : d < cx.n) {st : St} {a : Act} {w : World} (hR : Rel P B w0 cx.n st a w) {args : List V} (hy : yCall st o = some args) {g0 : Nat} {A : T} {ys0 : List A.den} {k0 : Nat} (hit0 : st.loc itK = some (g0, .it A ys0 k0))
    {y : A.den} {us : List (Nat × Nat × L)} (hgs : gatherS cx.Γ fr A st.loc args = some (y, us)) {g : Nat} {A2 : T} {ys : List A2.den} {k : Nat} (hit : putLoc st.loc us itK = some (g, .it A2 ys k)) (hAA : A.beq A2 = true) (hyk : ys[k]? = some (castT hAA y)) {K : Act → World → Prop} {Q : Exit → Act → World → Prop}
    (h1 : ∀ a' w', Rel P B w0 cx.n ⟨putEnv st.env (some d) (.d true .bool true), set1 (putLoc st.loc us) itK g (.it A2 ys (k + 1))⟩ a' w' → K a' w')
    (h2 : ∀ a' w', Rel P B w0 cx.n ⟨putEnv st.env (some d) (.d true .bool false), set1 (putLoc st.loc us) itK g .itx⟩ a' w' → K a' w') : o.wpIn (Fw B.ro) 0 P a w K Q := by
  rw [hB.ro]
  obtain ⟨j, hj, hY⟩ := hB.y
  obtain ⟨G, hm, he⟩ := hR.ex
  unfold yCall at hy
  split at hy
  · rename_i c hop
    split at hy
    · rename_i f hcal
      split at hy
      · rename_i hyld
        cases hy
        have hf := eval_ok he f
        rw [hyld] at hf
        have hf : a.eval f = .func (.yield B.l) #[] #[] := hf
        obtain ⟨r1, r2, r3⟩ := gatherS_spec hk A _ _ st.loc y us hgs hm (ERs.map (eval_ok he) c.args.toList)
        obtain rfl := T.beq_eq hAA
        have hyk : ys[k]? = some y := hyk
        obtain ⟨_, hys, hex, hhz, j', hj', hJ⟩ := r1.loc itK g _ hit
        rw [hj] at hj'; cases hj'
        have hY' : YieldOK P fr (reps P A) B.S B.n B.l j ys := by
          rw [hys] at hY
          exact hY
        obtain ⟨T0, hT0⟩ : ∃ T0 : Nat → Prop, T0 = fun b => B.n ≤ b ∧ ¬ (G itK).ex b ∧ ¬ hzOf B G (putLoc st.loc us) w b := ⟨_, rfl⟩
        have hzz : ∀ b, (G itK).hz b → hzOf B G (putLoc st.loc us) w b := fun b h => ⟨(hhz b h).1, (hhz b h).2.1, (hhz b h).2.2⟩
        have hnx : ∀ b, hzOf B G (putLoc st.loc us) w b → ¬ (G itK).ex b := fun b h e => h.2.2.2.1 itK g _ hit rfl e
        have hJ2 : j.J k T0 (hzOf B G (putLoc st.loc us) w) w := j.cl _ _ _ _ _ _ _ hJ (Grow.refl _ _) (fun b h => by
          rw [hT0] at h
          exact .inl ⟨h.1, h.2.1, fun hz => h.2.2 (hzz b hz)⟩) (fun b h => by
          by_cases hz : (G itK).hz b
          · exact .inl hz
          · exact .inr (.inl ⟨h.2.1, hnx b h, hz⟩))
        have hvd : (reps P A).v w (fun b => dS B G (putLoc st.loc us) fr b ∧ b < w.heap.size) y (c.args.toList.map a.eval) [] := v_keep A r3 (Keep.refl _ _) fun b hb h => ⟨h, hb⟩
        have hyat := hY' k T0 (hzOf B G (putLoc st.loc us) w) w (c.args.toList.map a.eval) y _ hyk hJ2 (fun b h => by rw [hT0] at h; exact h.1) (fun b h => ⟨h.2.1, fun ht => by rw [hT0] at ht; exact ht.2.2 h⟩) hvd (fun b h => by
          by_cases hn : B.n ≤ b
          · exact .inl ⟨h.2, hn, ⟨fun e => (by cases e), h.1.1.2⟩, h.1.2⟩
          · refine .inr ⟨?_, h.1.1.2.resolve_left hn⟩
            cases fr
            · rfl
            · exact absurd (h.1.1.1 rfl) hn)
        obtain ⟨fn, tmps, assign, body, e1, e2⟩ := hyat
        refine ⟨fun _ _ => trivial, ?_⟩
        have hrun := run_yield_call (P := P) (o := o) (w := w) hop hcal hf e1
        show Oper.uponIn (Fw none) 0 P o a K Q ((o.semAt none a.eval).run P w)
        rw [Oper.semAt_none, hrun, Oper.uponIn_round]
        refine ⟨fun e => (by cases e), RoundIn.mono e2 ?_⟩
        rintro e W2 ⟨hkeep, hres⟩
        have env2 : ∀ {l' : L} (hit' : l'.isIt = true) (b : Bool), (∀ (gk : Gh), gk = ⟨(G itK).hdr, (G itK).blk, (G itK).ih, (G itK).ib, fun b => (G itK).ex b ∨ (w.heap.size ≤ b ∧ b < W2.heap.size), hzOf B G (putLoc st.loc us) w⟩ → (∀ b, gk.ex b → B.n ≤ b ∧ b < W2.heap.size) → (∀ b, gk.hz b → b < W2.heap.size ∧ B.n ≤ b ∧ dS B (setG G itK gk) (set1 (putLoc st.loc us) itK g l') false b) → LRep P B (setG G itK gk) (set1 (putLoc st.loc us) itK g l') W2 itK l') →
            Rel P B w0 cx.n ⟨putEnv st.env (some d) (.d true .bool b), set1 (putLoc st.loc us) itK g l'⟩ (a.put o.dst (.bool b)) W2 := by
          intro l' hit' b hl
          obtain ⟨q1, q2⟩ := yield_ext r1 hit rfl hit' hB.lo hB.fo (by rw [hT0] at hkeep; exact hkeep) rfl (hl _ rfl)
          refine ⟨⟨_, q1, fun t => ?_⟩, (put_size ..).trans hR.sz, ?_, fun t v e => by rw [hB.kv] at e; cases e⟩
          · rw [hd]
            exact put_get (d := some d) (fun k hk' => by cases hk'; rw [hR.sz]; exact hdn) (fun _ => bool_rep) (fun t => ERep.extD q2 ((he t).ext r2)) t
          · have hds := hR.nd.2 (by rw [hj]; rfl)
            rw [put_defers, hds]
            exact ⟨Marks.nil _ _, fun _ => rfl⟩
        have shape : ∀ (gk : Gh), gk = ⟨(G itK).hdr, (G itK).blk, (G itK).ih, (G itK).ib, fun b => (G itK).ex b ∨ (w.heap.size ≤ b ∧ b < W2.heap.size), hzOf B G (putLoc st.loc us) w⟩ →
            (∀ b, (B.n ≤ b ∧ ¬ gk.ex b ∧ ¬ gk.hz b) → (T0 b ∧ b < w.heap.size) ∨ W2.heap.size ≤ b) ∧ ∀ b, gk.hz b → hzOf B G (putLoc st.loc us) w b ∧ b < w.heap.size := by
          intro gk hgk
          rw [hgk]
          refine ⟨fun b h => ?_, fun b h => ⟨h, h.1⟩⟩
          by_cases h1 : b < w.heap.size
          · exact .inl ⟨by rw [hT0]; exact ⟨h.1, fun e => h.2.1 (.inl e), h.2.2⟩, h1⟩
          · refine .inr (Nat.le_of_not_lt fun h2 => h.2.1 (.inr ⟨by omega, h2⟩))
        rcases hres with ⟨rfl, hJ3⟩ | ⟨rfl, hJ3⟩
        · refine h1 _ _ (env2 rfl true fun gk hgk hx hz => ?_)
          obtain ⟨s1, s2⟩ := shape gk hgk
          unfold LRep
          rw [setG_same]
          exact ⟨rfl, hys, hx, hz, j, hj, j.cl _ _ _ _ _ _ _ hJ3 (Grow.refl _ _) (fun b h => s1 b h) fun b h => .inl (s2 b h)⟩
        · refine h2 _ _ (env2 rfl false fun gk hgk hx hz => ?_)
          obtain ⟨s1, s2⟩ := shape gk hgk
          unfold LRep
          rw [setG_same]
          exact ⟨rfl, hx, hz, j, hj, j.clx _ _ _ _ _ _ hJ3 (Grow.refl _ _) (fun b h => s1 b h) fun b h => .inl (s2 b h)⟩
      · cases hy
    · cases hy
  · cases hy

theorem yGo_wp (hk : Cok P cx) {fr : Bool} (hB : ItB P B fr) {ops : List Oper} {K : St → Prop} {Q : Exit → Act → World → Prop} (hQ : ∀ st a w, K st → Rel P B w0 cx.n st a w → Q .normal a w) : ∀ (l : List Oper) (k : Nat) (st : St) (a : Act) (w : World), (∀ j, l[j]? = ops[k + j]?) → Rel P B w0 cx.n st a w → yGo cx fr l st K →
    wpOpsIn (Fw B.ro) 0 P ops.toArray Q (List.range' k l.length) a w
  | [], k, st, a, w, _, hR, h => by simpa [wpOpsIn] using hQ st a w h hR
  | o :: l, k, st, a, w, hl, hR, h => by
    rw [List.length_cons, List.range'_succ, wpOpsIn_cons]
    have ho : ops[k]? = some o := by simpa using (hl 0).symm
    have hl' : ∀ j, l[j]? = ops[k + 1 + j]? := fun j => by have := hl (j + 1); simpa [Nat.add_assoc, Nat.add_comm 1 j] using this
    unfold yGo at h
    split at h
    · exact h.elim
    · rename_i hg
      have hw : Region.wanted o (yielded ops.toArray a.tmps) = true := by unfold Region.wanted; rw [hg]
      unfold wpOpIn
      rw [show ops.toArray[k]? = some o by simpa using ho]
      simp only [hw, if_true]
      split at h
      · rename_i args hy
        split at h
        · rename_i d g0 A ys0 k0 hd hit0
          split at h
          · rename_i y us hdn hgs
            split at h
            · rename_i g A2 ys kk hit
              split at h
              · rename_i hAA
                obtain ⟨h0, h1, h2⟩ := h
                exact yield_wp hk hB hd (Nat.le_of_ble_eq_true hdn) hR hy hit0 hgs hit hAA h0 (fun a' w' hR' => yGo_wp hk hB hQ l (k + 1) _ a' w' hl' hR' h1) (fun a' w' hR' => yGo_wp hk hB hQ l (k + 1) _ a' w' hl' hR' h2)
              · exact h.elim
            · exact h.elim
          · exact h.elim
        · exact h.elim
      · split at h
        · rename_i e hst
          obtain ⟨p1, p2⟩ := gnd_pre hst h
          refine ⟨fun _ _ => trivial, ?_⟩
          rw [Oper.semAt_eq _ _ _ (stepE_nd hst)]
          exact upon_in (stepE_upon hk hR (fun d _ => hB.kv d) hst p1 fun a' w' hR' _ => yGo_wp hk hB hQ l (k + 1) _ a' w' hl' hR' p2)
        · exact h.elim

end

end Go.Tk
