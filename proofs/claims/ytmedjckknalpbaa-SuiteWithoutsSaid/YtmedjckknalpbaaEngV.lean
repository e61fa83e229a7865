/- The engine, part V: an iterator calls yield. No conditions. -/
import Derived.Test.YtmedjckknalpbaaEngU
set_option linter.unusedSimpArgs false
set_option linter.unusedVariables false
namespace Go.Tk
open Go Go.RowKit

/-- What is handed over, kept. -/
def gatherS (Γ : List (Nat × Con)) (fr : Bool) : (A : T) → Mem → List V → Option (A.den × List (Nat × Nat × L))
  | .nil, _, [] => some ((), [])
  | .cons a b, m, v :: vs => match stor Γ m a v with
    | some (f, x, u) => match f || a.flat || !fr with
      | true => match gatherS Γ fr b (putLoc m u) vs with
        | some (y, u') => some ((x, y), u ++ u')
        | none => none
      | false => none
    | none => none
  | _, _, _ => none

section
variable {P : Program} {B : Bs} {G : Nat → Gh} {m : Mem} {w w0 : World} {cx : Cx}

theorem gatherS_spec (hk : Cok P cx) {fr : Bool} : ∀ (A : T) (vs : List V) (vals : List Value) (m : Mem) (y : A.den) (us : List (Nat × Nat × L)), gatherS cx.Γ fr A m vs = some (y, us) → MRel P B G m w w0 → ERs P B G m w vs vals →
    MRel P B G (putLoc m us) w w0 ∧ Ext B G m w G (putLoc m us) w ∧ (reps P A).v w (dS B G (putLoc m us) fr) y vals []
  | .nil, [], [], m, y, us, h, hm, _ => by cases h; exact ⟨hm, Ext.refl, rfl, rfl⟩
  | .nil, [], _ :: _, _, _, _, _, _, h => h.elim
  | .nil, _ :: _, _, _, _, _, h, _, _ => by simp [gatherS] at h
  | .cons a b, [], _, _, _, _, h, _, _ => by simp [gatherS] at h
  | .cons a b, v :: vs, [], _, _, _, _, _, h => h.elim
  | .cons a b, v :: vs, u :: vals, m, y, us, h, hm, ⟨hv, hl⟩ => by
    unfold gatherS at h
    split at h
    · rename_i f x u1 hst
      split at h
      · rename_i hf
        split at h
        · rename_i y2 u2 hg
          cases h
          obtain ⟨r1, r2, cs, rfl, hc⟩ := stor_spec hk hm (fun _ _ h => h) hst hv
          have hl' : ∀ (l : List V) (vals : List Value), ERs P B G m w l vals → ERs P B G (putLoc m u1) w l vals := by
            intro l
            induction l with
            | nil => intro vals h; cases vals <;> exact h
            | cons v l ih => intro vals h; cases vals with
              | nil => exact h.elim
              | cons u vals => exact ⟨h.1.ext r2, ih _ h.2⟩
          obtain ⟨s1, s2, s3⟩ := gatherS_spec hk b vs vals (putLoc m u1) y2 u2 hg r1 (hl' _ _ hl)
          rw [putLoc_append]
          refine ⟨s1, r2.trans s2, _, vals, [], [], rfl, rfl, o_of_c ?_, s3⟩
          have hc := s2.c hc
          cases hfl : a.flat
          · refine c_and hc fun e => ?_
            subst e
            rw [hfl] at hf
            simpa using hf
          · exact c_flat a hfl hc
        · cases h
      · cases h
    · cases h
  | .int, _, _, _, _, _, h, _, _ => by simp [gatherS] at h
  | .bool, _, _, _, _, _, h, _, _ => by simp [gatherS] at h
  | .sl _, _, _, _, _, _, h, _, _ => by simp [gatherS] at h
  | .osl _, _, _, _, _, _, h, _, _ => by simp [gatherS] at h
  | .ref _, _, _, _, _, _, h, _, _ => by simp [gatherS] at h
  | .arr _ _, _, _, _, _, _, h, _, _ => by simp [gatherS] at h
  | .fn _ _, _, _, _, _, _, h, _, _ => by simp [gatherS] at h
  | .nsl _, _, _, _, _, _, h, _, _ => by simp [gatherS] at h
  | .seq _ _, _, _, _, _, _, h, _, _ => by simp [gatherS] at h

theorem Grow.refl (T : Nat → Prop) (w : World) : Grow T w w := ⟨rfl, rfl, rfl, Nat.le_refl _, fun _ _ _ => rfl⟩

/-- The blocks that an iterator writes to no more. -/
def hzOf (B : Bs) (G : Nat → Gh) (m : Mem) (w : World) (b : Nat) : Prop := b < w.heap.size ∧ B.n ≤ b ∧ dS B G m false b

/-- Behind a call of yield: only blocks of who ranges, and new ones, are other ones. -/
theorem yield_ext (hm : MRel P B G m w w0) {g : Nat} {l l' : L} (hk : m itK = some (g, l)) (hit : l.isIt = true) (hit' : l'.isIt = true) (hlo : B.lo = false) (hfo : ∀ b, ¬ (B.fo b ∨ B.kb b)) {W2 : World}
    (hkeep : Keep (fun b => B.S b ∨ (B.n ≤ b ∧ ¬ (G itK).ex b ∧ ¬ hzOf B G m w b) ∨ hzOf B G m w b) w W2) {gk : Gh} (hgk : gk = ⟨(G itK).hdr, (G itK).blk, (G itK).ih, (G itK).ib, fun b => (G itK).ex b ∨ (w.heap.size ≤ b ∧ b < W2.heap.size), hzOf B G m w⟩)
    (hl : (∀ b, gk.ex b → B.n ≤ b ∧ b < W2.heap.size) → (∀ b, gk.hz b → b < W2.heap.size ∧ B.n ≤ b ∧ dS B (setG G itK gk) (set1 m itK g l') false b) → LRep P B (setG G itK gk) (set1 m itK g l') W2 itK l') :
    MRel P B (setG G itK gk) (set1 m itK g l') W2 w0 ∧ ExtD B G m w (setG G itK gk) (set1 m itK g l') W2 := by
  have hl0 := hm.loc itK g l hk
  have hex : ∀ b, (G itK).ex b ↔ ownL (G itK) l b := by
    intro b
    cases l <;> first | (cases hit; done) | exact Iff.rfl
  have hmut : l.mut = true := by cases l <;> first | (cases hit; done) | rfl
  have hmut' : l'.mut = true := by cases l' <;> first | (cases hit'; done) | rfl
  have hex' : ∀ b, ownL gk l' b ↔ (G itK).ex b ∨ (w.heap.size ≤ b ∧ b < W2.heap.size) := by
    intro b
    cases l' <;> first | (cases hit'; done) | (rw [hgk]; exact Iff.rfl)
  have others : ∀ k g l, m k = some (g, l) → k ≠ itK → l.isIt = false := by
    intro k g l hk hne
    have := hm.loc k g l hk
    cases l <;> try rfl
    · exact absurd this.1 hne
    · exact absurd this.1 hne
  have sub : ∀ f b, b < w.heap.size → dS B G m f b → dS B (setG G itK gk) (set1 m itK g l') f b := by
    intro f b hlt hd
    refine ⟨hd.1, fun k g2 l2 hk2 hmut2 e => ?_, hd.2.2⟩
    rcases set1_cases hk2 with ⟨rfl, e1⟩ | ⟨hne, hk2⟩
    · cases e1
      rw [setG_same, hex'] at e
      rcases e with e | e
      · exact hd.2.1 _ _ _ hk hmut ((hex b).1 e)
      · omega
    · rw [setG_other _ _ hne] at e
      exact hd.2.1 _ _ _ hk2 hmut2 e
  have he : ExtD B G m w (setG G itK gk) (set1 m itK g l') W2 := by
    refine ⟨fun f => ⟨hkeep.1, fun b hb hd => hkeep.2 b hb ?_⟩, sub, fun k g2 l2 hk2 => ?_⟩
    · by_cases hn : B.n ≤ b
      · exact .inr (.inr ⟨hb.lt, hn, ⟨⟨fun e => (by cases e), hd.1.2⟩, hd.2⟩⟩)
      · exact .inl (hd.1.2.resolve_left hn)
    · by_cases e : k = itK
      · subst e
        rw [hk] at hk2; cases hk2
        refine ⟨g, l', set1_same .., Nat.le_refl _, fun _ => ?_⟩
        rw [setG_same, hgk]
        cases l <;> first | (cases hit; done) | skip
        all_goals (cases l' <;> first | (cases hit'; done) | skip)
        all_goals exact ⟨fun _ _ h => h.elim, rfl, fun _ _ _ h => h.elim, fun _ _ _ h => h.elim, fun _ _ _ _ h => h.elim⟩
      · exact ⟨g2, l2, by rw [set1_other _ _ _ (Ne.symm e)]; exact hk2, Nat.le_refl _, fun _ => by rw [setG_other _ _ e]; exact .refl _ _⟩
  refine ⟨⟨fun h => (by rw [hlo] at h; cases h), Nat.le_trans hm.base hkeep.1, ?_, ?_, ⟨fun b h => (hfo b h).elim, fun _ _ _ b _ _ _ h => hfo b h⟩, Nat.le_trans hm.lbd hkeep.1⟩, he⟩
  · intro k g2 l2 hk2
    rcases set1_cases hk2 with ⟨rfl, e1⟩ | ⟨hne, hk2⟩
    · cases e1
      refine hl (fun b hb => ?_) fun b hb => ?_
      · rw [hgk] at hb
        rcases hb with hb | hb
        · have := hm.loc itK g l hk
          have := this.own_lt hmut ((hex b).1 hb)
          exact ⟨this.2, Nat.lt_of_lt_of_le this.1 hkeep.1⟩
        · exact ⟨Nat.le_trans hm.base hb.1, hb.2⟩
      · rw [hgk] at hb
        have hb : hzOf B G m w b := hb
        exact ⟨Nat.lt_of_lt_of_le hb.1 hkeep.1, hb.2.1, sub false b hb.1 hb.2.2⟩
    · refine (hm.loc k g2 l2 hk2).extD he (setG_other _ _ hne) (others k g2 l2 hk2 hne) fun hmut2 b e => ?_
      have hc : isC w b := by
        rcases (hm.loc k g2 l2 hk2).own_isC hmut2 e with h | ⟨_, _, _, rfl⟩ | rfl
        · exact h
        · have := others k g2 _ hk2 hne; cases this
        · have := others k g2 _ hk2 hne; cases this
      refine hkeep.2 b hc (.inr (.inl ⟨((hm.loc k g2 l2 hk2).own_lt hmut2 e).2, fun hx => ?_, fun hz => ?_⟩))
      · exact hne (hm.inj k itK g2 g l2 l b hk2 hk hmut2 hmut e ((hex b).1 hx))
      · exact hz.2.2.2.1 k g2 l2 hk2 hmut2 e
  · have key : ∀ k g2 l2 b, k ≠ itK → m k = some (g2, l2) → l2.mut = true → ownL (G k) l2 b → ownL gk l' b → False := by
      intro k g2 l2 b hne hk2 hmut2 e e'
      rcases (hex' b).1 e' with h | h
      · exact hne (hm.inj k itK g2 g l2 l b hk2 hk hmut2 hmut e ((hex b).1 h))
      · have := ((hm.loc k g2 l2 hk2).own_lt hmut2 e).1; omega
    intro k k' g2 g3 l2 l3 b hk2 hk3 m2 m3 e e'
    rcases set1_cases hk2 with ⟨q1, e1⟩ | ⟨hne, hk2'⟩ <;> rcases set1_cases hk3 with ⟨q2, e2⟩ | ⟨hne', hk3'⟩
    · rw [q1, q2]
    · cases e1
      rw [q1, setG_same] at e; rw [setG_other _ _ hne'] at e'
      exact (key k' g3 l3 b hne' hk3' m3 e' e).elim
    · cases e2
      rw [q2, setG_same] at e'; rw [setG_other _ _ hne] at e
      exact (key k g2 l2 b hne hk2' m2 e e').elim
    · rw [setG_other _ _ hne] at e; rw [setG_other _ _ hne'] at e'
      exact hm.inj k k' g2 g3 l2 l3 b hk2' hk3' m2 m3 e e'

end

/-! ### Regions with a yield -/
def yCall (st : St) (o : Oper) : Option (List V) := match o.op with
  | .call c => match c.callee with
    | .value f => match st.eval f with
      | .yld => some (c.args.toList.map st.eval)
      | _ => none
    | _ => none
  | _ => none

def yGo (cx : Cx) (fr : Bool) : List Oper → St → (St → Prop) → Prop
  | [], st, Q => Q st
  | o :: l, st, Q => match o.guard with
    | some _ => False
    | none => match yCall st o with
      | some args => match o.dst, st.loc itK with
        | some d, some (_, .it A _ _) => match Nat.ble (d + 1) cx.n, gatherS cx.Γ fr A st.loc args with
          | true, some (y, us) => match putLoc st.loc us itK with
            | some (g, .it A2 ys k) => if h : A.beq A2 = true then ys[k]? = some (castT (pf h) y) ∧
                yGo cx fr l ⟨putEnv st.env (some d) (.d true .bool true), set1 (putLoc st.loc us) itK g (.it A2 ys (k + 1))⟩ Q ∧
                yGo cx fr l ⟨putEnv st.env (some d) (.d true .bool false), set1 (putLoc st.loc us) itK g .itx⟩ Q else False
            | _ => False
          | _, _ => False
        | _, _ => False
      | none => match stepE cx o st with
        | some e => gnd o e (yGo cx fr l (st.upd o e) Q)
        | none => False

section
variable {P : Program} {B : Bs} {w0 : World} {cx : Cx}

/-- What an iterator's frame stands in. -/
structure ItB (P : Program) (B : Bs) (fr : Bool) : Prop where
  lo : B.lo = false
  fo : ∀ b, ¬ (B.fo b ∨ B.kb b)
  kv : ∀ t, B.kv t = none
  ro : B.ro = none
  lb : B.lb = 0
  y : ∃ j, B.j = some j ∧ YieldOK P fr (reps P B.ys.1) B.S B.n B.l j B.ys.2

theorem run_yield_call {o : Oper} {c : Call} {f : Operand} {l : Nat} {a : Act} {w : World} (h1 : o.op = .call c) (h2 : c.callee = .value f) (h3 : a.eval f = .func (.yield l) #[] #[]) {r : Result Next} (h4 : (Instr.yield l (c.args.toList.map a.eval).toArray).run P w = r) : (execOp a.eval o).run P w = r := by
  obtain ⟨dst, op, ty, pos, after, guard⟩ := o
  obtain ⟨callee, args, argTypes⟩ := c
  simp only at h1 h2
  subst h1
  subst h2
  have hargs : args.map a.eval = (args.toList.map a.eval).toArray := by simp [← Array.toList_map]
  have : (execOp a.eval ⟨dst, .call ⟨.value f, args, argTypes⟩, ty, pos, after, guard⟩).run P w = (Instr.yield l (args.toList.map a.eval).toArray).run P w := by
    simp only [execOp, resolve]
    rw [hargs, h3]
    simp [Deferred.ofValue, invoke, go_sem]
  rw [this, h4]

theorem yield_wp (hk : Cok P cx) {fr : Bool} (hB : ItB P B fr) {o : Oper} {d : Nat} (hd : o.dst = some d) (hdn : d < cx.n) {st : St} {a : Act} {w : World} (hR : Rel P B w0 cx.n st a w) {args : List V} (hy : yCall st o = some args) {g0 : Nat} {A : T} {ys0 : List A.den} {k0 : Nat} (hit0 : st.loc itK = some (g0, .it A ys0 k0))
    {y : A.den} {us : List (Nat × Nat × L)} (hgs : gatherS cx.Γ fr A st.loc args = some (y, us)) {g : Nat} {A2 : T} {ys : List A2.den} {k : Nat} (hit : putLoc st.loc us itK = some (g, .it A2 ys k)) (hAA : A.beq A2 = true) (hyk : ys[k]? = some (castT hAA y)) {K : Act → World → Prop} {Q : Exit → Act → World → Prop}
    (h1 : ∀ a' w', Rel P B w0 cx.n ⟨putEnv st.env (some d) (.d true .bool true), set1 (putLoc st.loc us) itK g (.it A2 ys (k + 1))⟩ a' w' → K a' w')
    (h2 : ∀ a' w', Rel P B w0 cx.n ⟨putEnv st.env (some d) (.d true .bool false), set1 (putLoc st.loc us) itK g .itx⟩ a' w' → K a' w') : o.wpIn (Fw B.ro) 0 P a w K Q := by
  rw [hB.ro]
  obtain ⟨j, hj, hY⟩ := hB.y
  obtain ⟨G, hm, he⟩ := hR.ex
  unfold yCall at hy
  split at hy
  · rename_i c hop
    split at hy
    · rename_i f hcal
      split at hy
      · rename_i hyld
        cases hy
        have hf := eval_ok he f
        rw [hyld] at hf
        have hf : a.eval f = .func (.yield B.l) #[] #[] := hf
        obtain ⟨r1, r2, r3⟩ := gatherS_spec hk A _ _ st.loc y us hgs hm (ERs.map (eval_ok he) c.args.toList)
        obtain rfl := T.beq_eq hAA
        have hyk : ys[k]? = some y := hyk
        obtain ⟨_, hys, hex, hhz, j', hj', hJ⟩ := r1.loc itK g _ hit
        rw [hj] at hj'; cases hj'
        have hY' : YieldOK P fr (reps P A) B.S B.n B.l j ys := by
          rw [hys] at hY
          exact hY
        obtain ⟨T0, hT0⟩ : ∃ T0 : Nat → Prop, T0 = fun b => B.n ≤ b ∧ ¬ (G itK).ex b ∧ ¬ hzOf B G (putLoc st.loc us) w b := ⟨_, rfl⟩
        have hzz : ∀ b, (G itK).hz b → hzOf B G (putLoc st.loc us) w b := fun b h => ⟨(hhz b h).1, (hhz b h).2.1, (hhz b h).2.2⟩
        have hnx : ∀ b, hzOf B G (putLoc st.loc us) w b → ¬ (G itK).ex b := fun b h e => h.2.2.2.1 itK g _ hit rfl e
        have hJ2 : j.J k T0 (hzOf B G (putLoc st.loc us) w) w := j.cl _ _ _ _ _ _ _ hJ (Grow.refl _ _) (fun b h => by
          rw [hT0] at h
          exact .inl ⟨h.1, h.2.1, fun hz => h.2.2 (hzz b hz)⟩) (fun b h => by
          by_cases hz : (G itK).hz b
          · exact .inl hz
          · exact .inr (.inl ⟨h.2.1, hnx b h, hz⟩))
        have hvd : (reps P A).v w (fun b => dS B G (putLoc st.loc us) fr b ∧ b < w.heap.size) y (c.args.toList.map a.eval) [] := v_keep A r3 (Keep.refl _ _) fun b hb h => ⟨h, hb⟩
        have hyat := hY' k T0 (hzOf B G (putLoc st.loc us) w) w (c.args.toList.map a.eval) y _ hyk hJ2 (fun b h => by rw [hT0] at h; exact h.1) (fun b h => ⟨h.2.1, fun ht => by rw [hT0] at ht; exact ht.2.2 h⟩) hvd (fun b h => by
          by_cases hn : B.n ≤ b
          · exact .inl ⟨h.2, hn, ⟨fun e => (by cases e), h.1.1.2⟩, h.1.2⟩
          · refine .inr ⟨?_, h.1.1.2.resolve_left hn⟩
            cases fr
            · rfl
            · exact absurd (h.1.1.1 rfl) hn)
        obtain ⟨fn, tmps, assign, body, e1, e2⟩ := hyat
        refine ⟨fun _ _ => trivial, ?_⟩
        have hrun := run_yield_call (P := P) (o := o) (w := w) hop hcal hf e1
        show Oper.uponIn (Fw none) 0 P o a K Q ((o.semAt none a.eval).run P w)
        rw [Oper.semAt_none, hrun, Oper.uponIn_round]
        refine ⟨fun e => (by cases e), RoundIn.mono e2 ?_⟩
        rintro e W2 ⟨hkeep, hres⟩
        have env2 : ∀ {l' : L} (hit' : l'.isIt = true) (b : Bool), (∀ (gk : Gh), gk = ⟨(G itK).hdr, (G itK).blk, (G itK).ih, (G itK).ib, fun b => (G itK).ex b ∨ (w.heap.size ≤ b ∧ b < W2.heap.size), hzOf B G (putLoc st.loc us) w⟩ → (∀ b, gk.ex b → B.n ≤ b ∧ b < W2.heap.size) → (∀ b, gk.hz b → b < W2.heap.size ∧ B.n ≤ b ∧ dS B (setG G itK gk) (set1 (putLoc st.loc us) itK g l') false b) → LRep P B (setG G itK gk) (set1 (putLoc st.loc us) itK g l') W2 itK l') →
            Rel P B w0 cx.n ⟨putEnv st.env (some d) (.d true .bool b), set1 (putLoc st.loc us) itK g l'⟩ (a.put o.dst (.bool b)) W2 := by
          intro l' hit' b hl
          obtain ⟨q1, q2⟩ := yield_ext r1 hit rfl hit' hB.lo hB.fo (by rw [hT0] at hkeep; exact hkeep) rfl (hl _ rfl)
          refine ⟨⟨_, q1, fun t => ?_⟩, (put_size ..).trans hR.sz, ?_, fun t v e => by rw [hB.kv] at e; cases e⟩
          · rw [hd]
            exact put_get (d := some d) (fun k hk' => by cases hk'; rw [hR.sz]; exact hdn) (fun _ => bool_rep) (fun t => ERep.extD q2 ((he t).ext r2)) t
          · have hds := hR.nd.2 (by rw [hj]; rfl)
            rw [put_defers, hds]
            exact ⟨Marks.nil _ _, fun _ => rfl⟩
        have shape : ∀ (gk : Gh), gk = ⟨(G itK).hdr, (G itK).blk, (G itK).ih, (G itK).ib, fun b => (G itK).ex b ∨ (w.heap.size ≤ b ∧ b < W2.heap.size), hzOf B G (putLoc st.loc us) w⟩ →
            (∀ b, (B.n ≤ b ∧ ¬ gk.ex b ∧ ¬ gk.hz b) → (T0 b ∧ b < w.heap.size) ∨ W2.heap.size ≤ b) ∧ ∀ b, gk.hz b → hzOf B G (putLoc st.loc us) w b ∧ b < w.heap.size := by
          intro gk hgk
          rw [hgk]
          refine ⟨fun b h => ?_, fun b h => ⟨h, h.1⟩⟩
          by_cases h1 : b < w.heap.size
          · exact .inl ⟨by rw [hT0]; exact ⟨h.1, fun e => h.2.1 (.inl e), h.2.2⟩, h1⟩
          · refine .inr (Nat.le_of_not_lt fun h2 => h.2.1 (.inr ⟨by omega, h2⟩))
        rcases hres with ⟨rfl, hJ3⟩ | ⟨rfl, hJ3⟩
        · refine h1 _ _ (env2 rfl true fun gk hgk hx hz => ?_)
          obtain ⟨s1, s2⟩ := shape gk hgk
          unfold LRep
          rw [setG_same]
          exact ⟨rfl, hys, hx, hz, j, hj, j.cl _ _ _ _ _ _ _ hJ3 (Grow.refl _ _) (fun b h => s1 b h) fun b h => .inl (s2 b h)⟩
        · refine h2 _ _ (env2 rfl false fun gk hgk hx hz => ?_)
          obtain ⟨s1, s2⟩ := shape gk hgk
          unfold LRep
          rw [setG_same]
          exact ⟨rfl, hx, hz, j, hj, j.clx _ _ _ _ _ _ hJ3 (Grow.refl _ _) (fun b h => s1 b h) fun b h => .inl (s2 b h)⟩
      · cases hy
    · cases hy
  · cases hy

theorem yGo_wp (hk : Cok P cx) {fr : Bool} (hB : ItB P B fr) {ops : List Oper} {K : St → Prop} {Q : Exit → Act → World → Prop} (hQ : ∀ st a w, K st → Rel P B w0 cx.n st a w → Q .normal a w) : ∀ (l : List Oper) (k : Nat) (st : St) (a : Act) (w : World), (∀ j, l[j]? = ops[k + j]?) → Rel P B w0 cx.n st a w → yGo cx fr l st K →
    wpOpsIn (Fw B.ro) 0 P ops.toArray Q (List.range' k l.length) a w
  | [], k, st, a, w, _, hR, h => by simpa [wpOpsIn] using hQ st a w h hR
  | o :: l, k, st, a, w, hl, hR, h => by
    rw [List.length_cons, List.range'_succ, wpOpsIn_cons]
    have ho : ops[k]? = some o := by simpa using (hl 0).symm
    have hl' : ∀ j, l[j]? = ops[k + 1 + j]? := fun j => by have := hl (j + 1); simpa [Nat.add_assoc, Nat.add_comm 1 j] using this
    unfold yGo at h
    split at h
    · exact h.elim
    · rename_i hg
      have hw : Region.wanted o (yielded ops.toArray a.tmps) = true := by unfold Region.wanted; rw [hg]
      unfold wpOpIn
      rw [show ops.toArray[k]? = some o by simpa using ho]
      simp only [hw, if_true]
      split at h
      · rename_i args hy
        split at h
        · rename_i d g0 A ys0 k0 hd hit0
          split at h
          · rename_i y us hdn hgs
            split at h
            · rename_i g A2 ys kk hit
              split at h
              · rename_i hAA
                obtain ⟨h0, h1, h2⟩ := h
                exact yield_wp hk hB hd (Nat.le_of_ble_eq_true hdn) hR hy hit0 hgs hit hAA h0 (fun a' w' hR' => yGo_wp hk hB hQ l (k + 1) _ a' w' hl' hR' h1) (fun a' w' hR' => yGo_wp hk hB hQ l (k + 1) _ a' w' hl' hR' h2)
              · exact h.elim
            · exact h.elim
          · exact h.elim
        · exact h.elim
      · split at h
        · rename_i e hst
          obtain ⟨p1, p2⟩ := gnd_pre hst h
          refine ⟨fun _ _ => trivial, ?_⟩
          rw [Oper.semAt_eq _ _ _ (stepE_nd hst)]
          exact upon_in (stepE_upon hk hR (fun d _ => hB.kv d) hst p1 fun a' w' hR' _ => yGo_wp hk hB hQ l (k + 1) _ a' w' hl' hR' p2)
        · exact h.elim

end

/-! ### Regions with a panic -/
def pIfc (o : Oper) : Option (TypeId × Operand) := match o.op with
  | .makeInterface ty x => some (ty, x)
  | _ => none

/-- What is left of a region that panics with the value in d. -/
def pPanic (n : Nat) (l : List Oper) (d : Option Nat) : Bool := match l, d with
  | [q], some d => match q.op, q.guard with
    | .panic (.tmp t), none => Nat.beq t d && Nat.ble (d + 1) n
    | _, _ => false
  | _, _ => false

def pDst (n : Nat) (d : Option Nat) : Bool := match d with
  | some d => Nat.ble (d + 1) n
  | none => true

def pCall (cx : Cx) (st : St) (o : Oper) : Option (PanC × List V) := match o.op with
  | .call c => match c.callee with
    | .value f => match st.eval f with
      | .fnc g .nil _ => match lk cx.X.pcs g with
        | some d => some (d, c.args.toList.map st.eval)
        | none => none
      | _ => none
    | _ => none
  | _ => none

def pGo (cx : Cx) (p : PanX) : List Oper → St → (St → Prop) → Prop
  | [], st, Q => Q st
  | o :: l, st, Q => match o.guard with
    | some _ => False
    | none => match pIfc o with
      | some (ty, x) => match pPanic cx.n l o.dst && Nat.beq ty p.ty, stor cx.Γ st.loc p.R (st.eval x) with
        | true, some (f, y, _) => (match f || p.R.flat with | true => p.ok y | false => False)
        | _, _ => False
      | none => match pCall cx st o with
        | some (c, args) => match pDst cx.n o.dst && Nat.beq c.ty p.ty, gatherS cx.Γ false c.A1 st.loc (args.take (arity c.A1)) with
          | true, some (x1, u1) => match gatherS cx.Γ true c.A2 (putLoc st.loc u1) (args.drop (arity c.A1)) with
            | some (x2, u2) => if h : c.R.beq p.R = true then c.pre x1 x2 ∧ (c.F x1 x2 = none → pGo cx p l ⟨putEnv st.env o.dst .any, putLoc (putLoc st.loc u1) u2⟩ Q) ∧ ∀ y, c.F x1 x2 = some y → p.ok (castT (pf h) y) else False
            | none => False
          | _, _ => False
        | none => match stepE cx o st with
          | some e => gnd o e (pGo cx p l (st.upd o e) Q)
          | none => False

section
variable {P : Program} {B : Bs} {w0 : World} {cx : Cx}

theorem rel_put {n : Nat} {env : Nat → V} {m : Mem} {a : Act} {w : World} (hG : ∃ G, MRel P B G m w w0 ∧ ∀ t, ERep P B G m w (env t) (a.tmps.getD t undef)) (sz : a.tmps.size = n) (nd : Marks B.n a.defers w ∧ (B.j.isSome = true → a.defers = []))
    (kp : ∀ t v, B.kv t = some v → a.tmps.getD t undef = v) {d : Option Nat} (hd : ∀ k, d = some k → k < n) (hkv : ∀ k, d = some k → B.kv k = none) (v : Value) : Rel P B w0 n ⟨putEnv env d .any, m⟩ (a.put d v) w := by
  obtain ⟨G, hm, he⟩ := hG
  exact ⟨⟨G, hm, put_get (fun k hk => by rw [sz]; exact hd k hk) (fun _ => trivial) he⟩, (put_size ..).trans sz, by rw [put_defers]; exact nd, put_kp hkv kp⟩

theorem new_rel {G : Nat → Gh} {m : Mem} {w w' : World} (hm : MRel P B G m w w0) (hb : Below w.heap.size w w') : MRel P B G m w' w0 ∧ Ext B G m w G m w' := by
  have hc : Chgs (fun _ => False) B G m w G m w' := ⟨hb.os, hb.tape, hb.output, hb.size, fun _ _ => ⟨rfl, rfl⟩, fun i hi _ => hb.block i hi, fun _ _ _ h => h.elim, fun _ _ _ _ _ _ _ h => h.elim, fun _ _ _ h => h.elim, oth_below hb⟩
  exact ⟨hc.rel hm fun _ _ _ h => h.elim, hc.ext hm⟩

theorem run_mkIfc {ty : TypeId} (h : IfcOK P ty) (v : Value) (w : World) : (Instr.makeInterface ty v).run P w = .ok (.iface ty v) w := by
  obtain ⟨d, e, h⟩ := h
  unfold Instr.makeInterface
  rw [Sem.run_bind, run_underlying e]
  simp only [Result.andThen_ok]
  cases d <;> first | rfl | exact absurd rfl (h _)

theorem run_panic {ty : TypeId} (v : Value) (w : World) : (Instr.panic (.iface ty v)).run P w = .halt (.panic (.iface ty v)) w := by
  simp [Instr.panic, goPanic, Sem.run]

theorem dS_nS {G : Nat → Gh} {m : Mem} {f : Bool} {b : Nat} (h : dS B G m f b) : B.n ≤ b ∨ B.S b := h.1.2

theorem c_newS {G : Nat → Gh} {m : Mem} {w : World} {f : Bool} {t : T} {x : t.den} {cs : List Value} (h : (reps P t).c w (dS B G m f) x cs) (hf : (f || t.flat) = true) : (reps P t).c w (fun b => B.n ≤ b) x cs := by
  cases hfl : t.flat
  · rw [hfl, Bool.or_false] at hf
    subst hf
    exact c_mono t h fun b _ hb => hb.1.1 rfl
  · exact c_flat t hfl h

theorem pGo_wp (hk : Cok P cx) {p : PanX} (hp : cx.X.pan = some p) {ops : List Oper} (hkv : ∀ o ∈ ops, ∀ d, o.dst = some d → B.kv d = none) {K : St → Prop} {Q : Exit → Act → World → Prop} (hQ : ∀ st a w, K st → Rel P B w0 cx.n st a w → Q .normal a w)
    (hP : ∀ y st a w cs, p.ok y → Rel P B w0 cx.n st a w → (reps P p.R).c w (fun b => B.n ≤ b) y cs → Q (.panic [{ v := .iface p.ty (mkV p.R cs), recovered := false }]) a w) : ∀ (l : List Oper) (k : Nat) (st : St) (a : Act) (w : World), (∀ j, l[j]? = ops[k + j]?) → (∀ o ∈ l, o ∈ ops) → Rel P B w0 cx.n st a w → pGo cx p l st K →
    wpOpsIn (Fw B.ro) 0 P ops.toArray Q (List.range' k l.length) a w
  | [], k, st, a, w, _, _, hR, h => by simpa [wpOpsIn] using hQ st a w h hR
  | o :: l, k, st, a, w, hl, hm, hR, h => by
    rw [List.length_cons, List.range'_succ, wpOpsIn_cons]
    have ho : ops[k]? = some o := by simpa using (hl 0).symm
    have hl' : ∀ j, l[j]? = ops[k + 1 + j]? := fun j => by have := hl (j + 1); simpa [Nat.add_assoc, Nat.add_comm 1 j] using this
    have hm' : ∀ q ∈ l, q ∈ ops := fun q hq => hm q (by simp [hq])
    have hkvo := hkv o (hm o (by simp))
    unfold pGo at h
    split at h
    · exact h.elim
    · rename_i hg
      have hw : Region.wanted o (yielded ops.toArray a.tmps) = true := by unfold Region.wanted; rw [hg]
      unfold wpOpIn
      rw [show ops.toArray[k]? = some o by simpa using ho]
      simp only [hw, if_true]
      split at h
      · rename_i ty x hi
        unfold pIfc at hi
        split at hi
        · rename_i ty' x' hop
          cases hi
          split at h
          · rename_i f y us hb hst
            split at h
            case h_2 => exact h.elim
            rename_i hfl
            rw [Bool.and_eq_true] at hb
            obtain ⟨hb1, hb2⟩ := hb
            obtain rfl := Nat.eq_of_beq_eq_true hb2
            unfold pPanic at hb1
            split at hb1
            · rename_i q d hdd
              split at hb1
              · rename_i t hq hqg
                rw [Bool.and_eq_true] at hb1
                obtain rfl := Nat.eq_of_beq_eq_true hb1.1
                have hdn := Nat.le_of_ble_eq_true hb1.2
                obtain ⟨G, hmr, he⟩ := hR.ex
                have hev := eval_ok he x
                obtain ⟨r1, r2, cs, r3, r4⟩ := stor_spec hk hmr (fun _ _ h => h) hst hev
                refine ⟨fun _ _ => trivial, ?_⟩
                rw [Oper.semAt_eq _ _ _ (fun c e => by rw [hop] at e; cases e)]
                have hrun : (execOp a.eval o).run P w = .ok (.value (.iface p.ty (a.eval x))) w := by
                  obtain ⟨dst, op, ty, pos, after, guard⟩ := o
                  simp only at hop
                  subst hop
                  simp [execOp, run_mkIfc (hk.X.pan p hp)]
                rw [hrun, Oper.uponIn_value, hdd]
                rw [List.length_singleton, List.range'_one, wpOpsIn_cons]
                unfold wpOpIn
                have hq1 : ops[k + 1]? = some q := by simpa using (hl' 0).symm
                rw [show ops.toArray[k + 1]? = some q by simpa using hq1]
                have hw2 : ∀ ts, Region.wanted q ts = true := fun ts => by unfold Region.wanted; rw [hqg]
                simp only [hw2, if_true]
                refine ⟨fun _ _ => trivial, ?_⟩
                rw [Oper.semAt_eq _ _ _ (fun c e => by rw [hq] at e; cases e)]
                have hval : (a.put (some t) (Value.iface p.ty (a.eval x))).eval (.tmp t) = .iface p.ty (a.eval x) := by
                  have : t < a.tmps.size := by rw [hR.sz]; exact hdn
                  simp [Act.put, Act.eval, this]
                have hrun2 : (execOp (a.put (some t) (Value.iface p.ty (a.eval x))).eval q).run P w = .halt (.panic (.iface p.ty (a.eval x))) w := by
                  obtain ⟨dst, op, ty, pos, after, guard⟩ := q
                  simp only at hq
                  subst hq
                  simp only [execOp]
                  rw [hval]
                  simp [run_panic]
                rw [hrun2]
                show Q (.panic [{ v := .iface p.ty (a.eval x), recovered := false }]) _ w
                rw [r3]
                refine hP y ⟨putEnv st.env (some t) .any, putLoc st.loc us⟩ _ w cs h (rel_put ⟨G, r1, fun t => (he t).ext r2⟩ hR.sz hR.nd hR.kp (fun k e => by cases e; exact hdn) (fun k e => hkvo k (by rw [hdd]; exact e)) _) (c_newS r4 hfl)
              · cases hb1
            · cases hb1
          · exact h.elim
        · cases hi
      · split at h
        · rename_i c args hc
          split at h
          · rename_i x1 u1 hb hgs1
            rw [Bool.and_eq_true] at hb
            obtain ⟨hb1, hb2⟩ := hb
            have hty := Nat.eq_of_beq_eq_true hb2
            split at h
            case h_2 => exact h.elim
            rename_i x2 u2 hgs2
            split at h
            · rename_i hRR
              obtain ⟨hpre, hnone, hsome⟩ := h
              unfold pCall at hc
              split at hc
              · rename_i cl hop
                split at hc
                · rename_i fo hcal
                  split at hc
                  · rename_i g u hev
                    split at hc
                    · rename_i d hlk
                      simp only [Option.some.injEq, Prod.mk.injEq] at hc
                      obtain ⟨rfl, rfl⟩ := hc
                      obtain ⟨hfun, hpan⟩ := hk.X.pcs g d hlk
                      obtain ⟨G, hmr, he⟩ := hR.ex
                      have hf := eval_ok he fo
                      rw [hev] at hf
                      obtain ⟨caps, hf, hcaps⟩ := hf
                      obtain ⟨rfl, _⟩ := hcaps
                      rw [← List.map_take] at hgs1
                      rw [← List.map_drop] at hgs2
                      obtain ⟨q1, q2, q3⟩ := gatherS_spec hk d.A1 _ _ st.loc x1 u1 hgs1 hmr (ERs.map (eval_ok he) (cl.args.toList.take (arity d.A1)))
                      obtain ⟨r1, r2', r3⟩ := gatherS_spec hk d.A2 _ _ _ x2 u2 hgs2 q1 (ERs.map (fun x => (eval_ok he x).ext q2) (cl.args.toList.drop (arity d.A1)))
                      have r2 := q2.trans r2'
                      refine ⟨fun _ _ => trivial, ?_⟩
                      rw [Oper.semAt_eq _ _ _ (fun c e => by rw [hop] at e; cases e)]
                      refine upon_in ?_
                      have hrun : (execOp a.eval o).run P w = .ok (.enter g (cl.args.toList.map a.eval).toArray) w := by
                        obtain ⟨dst, op, ty, pos, after, guard⟩ := o
                        obtain ⟨callee, args, argTypes⟩ := cl
                        simp only at hop hcal
                        subst hop
                        subst hcal
                        have hargs : args.map a.eval = (args.toList.map a.eval).toArray := by simp [← Array.toList_map]
                        simp only [execOp, resolve]
                        rw [hargs, hf]
                        simp [Deferred.ofValue, invoke, run_enter hfun]
                      rw [hrun, Oper.upon_enter]
                      have hv1 : (reps P d.A1).v w (fun b => B.n ≤ b ∨ B.S b) x1 ((cl.args.toList.take (arity d.A1)).map a.eval) [] := v_mono _ (v_keep d.A1 q3 (r2'.keep false) (fun b hb h => r2'.sub false b hb h)) fun b hb => dS_nS hb
                      have hv2 : (reps P d.A2).v w (fun b => B.n ≤ b) x2 ((cl.args.toList.drop (arity d.A1)).map a.eval) [] := v_mono _ r3 fun b hb => hb.1.1 rfl
                      have hsplit : cl.args.toList.map a.eval = (cl.args.toList.take (arity d.A1)).map a.eval ++ (cl.args.toList.drop (arity d.A1)).map a.eval := by rw [← List.map_append, List.take_append_drop]
                      rw [hsplit]
                      refine (hpan w B.n B.S x1 x2 _ _ hmr.base hv1 hv2 hpre).mono ?_
                      rintro e w' ⟨hbel, hres⟩
                      obtain ⟨z1, z2⟩ := new_rel r1 hbel
                      have hdn : ∀ k, o.dst = some k → k < cx.n := fun k e => by
                        unfold pDst at hb1
                        rw [e] at hb1
                        exact Nat.le_of_ble_eq_true hb1
                      have hex : ∃ G, MRel P B G (putLoc (putLoc st.loc u1) u2) w' w0 ∧ ∀ t, ERep P B G (putLoc (putLoc st.loc u1) u2) w' (st.env t) (a.tmps.getD t undef) := ⟨G, z1, fun t => ((he t).ext r2).ext z2⟩
                      have hnd : Marks B.n a.defers w' ∧ (B.j.isSome = true → a.defers = []) := ⟨hR.nd.1.oth z2.oth, hR.nd.2⟩
                      rcases hres with ⟨e1, v, rfl⟩ | ⟨y, cs, e1, rfl, hrep⟩
                      · exact pGo_wp hk hp hkv hQ hP l (k + 1) _ _ w' hl' hm' (rel_put hex hR.sz hnd hR.kp hdn hkvo v) (hnone e1)
                      · have hy := hsome y e1
                        obtain ⟨dA1, dA2, dR, dty, dpre, dF⟩ := d
                        simp only at hRR hty y hrep
                        subst hty
                        obtain rfl := T.beq_eq hRR
                        exact hP y ⟨st.env, putLoc (putLoc st.loc u1) u2⟩ a w' cs hy ⟨hex, hR.sz, hnd, hR.kp⟩ hrep
                    · cases hc
                  · cases hc
                · cases hc
              · cases hc
            · exact h.elim
          · exact h.elim
        · split at h
          · rename_i e hst
            obtain ⟨p1, p2⟩ := gnd_pre hst h
            refine ⟨fun _ _ => trivial, ?_⟩
            rw [Oper.semAt_eq _ _ _ (stepE_nd hst)]
            exact upon_in (stepE_upon hk hR (fun d hd => hkvo d hd) hst p1 fun a' w' hR' _ => pGo_wp hk hp hkv hQ hP l (k + 1) _ a' w' hl' hm' hR' p2)
          · exact h.elim

end

end Go.Tk
