/- The engine, part T: one region; what is kept at a label. No conditions. -/
import Derived.Test.YtmedjckknalpbaaEngQ
set_option linter.unusedSimpArgs false
set_option linter.unusedVariables false
namespace Go.Tk
open Go Go.RowKit

/-! ### Operations that ask for nothing -/
def triv : Op → Bool
  | .move _ => true | .assign _ => true | .alloc _ => true | .box _ _ => true | .load _ _ => true | .store _ _ _ => true | .fieldAddr _ _ _ => true | .field _ _ _ => true
  | .build _ _ => true | .buildSlice _ _ _ => true | .extract _ _ => true | .convert _ _ _ => true | .nilCheck _ => true | .makeFunc _ _ _ => true
  | .unOp .not _ _ => true
  | .binOp .eql _ _ _ _ => true | .binOp .neq _ _ _ _ => true | .binOp .lss _ _ _ _ => true | .binOp .leq _ _ _ _ => true | .binOp .gtr _ _ _ _ => true | .binOp .geq _ _ _ _ => true
  | .call c => match c.callee with
    | .builtin .len => true | .builtin .copy => true | .builtin .min => true | .builtin .max => true
    | _ => false
  | _ => false

theorem pre_eff {p : Prop} {v : V} {e : Eff} (h : eff p v = some e) (hp : p) : e.pre := by cases h; exact hp

theorem triv_pre {cx : Cx} {o : Oper} {ev : Operand → V} {m : Mem} {e : Eff} (ht : triv o.op = true) (hst : ∀ t a v, o.op = .store t a v → ∀ u, e.val ≠ .c u) (h : act cx o ev m = some e) : e.pre := by
  unfold act at h
  split at h
  case h_1 => unfold aMove at h; repeat' split at h
              all_goals first | (cases h; done) | (cases h; trivial) | exact pre_eff h trivial
  case h_2 => unfold aMove at h; repeat' split at h
              all_goals first | (cases h; done) | (cases h; trivial) | exact pre_eff h trivial
  case h_3 e0 => rw [e0] at ht; simp [triv] at ht
  case h_4 => unfold aAlloc at h; repeat' split at h
              all_goals first | (cases h; done) | (cases h; trivial) | exact pre_eff h trivial
  case h_5 =>
    split at h
    · unfold aBoxN at h; repeat' split at h
      all_goals first | (cases h; done) | (cases h; trivial) | exact pre_eff h trivial
    · unfold aBox at h; repeat' split at h
      all_goals first | (cases h; done) | (cases h; trivial) | exact pre_eff h trivial
  case h_6 => unfold aLoad at h; repeat' split at h
              all_goals first | (cases h; done) | (cases h; trivial) | exact pre_eff h trivial
  case h_7 e0 =>
    have hst := hst _ _ _ e0
    split at h
    · unfold aStore at h; repeat' split at h
      all_goals first | (cases h; done) | (cases h; trivial) | exact pre_eff h trivial | (unfold aMoveIn at h; (repeat' split at h) <;> first | (cases h; done) | (cases h; exact absurd rfl (hst _))) | (unfold aStoreN at h; (repeat' split at h) <;> first | (cases h; done) | (cases h; exact absurd rfl (hst _)))
    · cases h
  case h_8 => unfold aFieldAddr at h; repeat' split at h
              all_goals first | (cases h; done) | (cases h; trivial) | exact pre_eff h trivial
  case h_9 => unfold aField at h; repeat' split at h
              all_goals first | (cases h; done) | (cases h; trivial) | exact pre_eff h trivial
  case h_10 e0 => rw [e0] at ht; simp [triv] at ht
  case h_11 e0 => rw [e0] at ht; simp [triv] at ht
  case h_12 => unfold aBuild at h; repeat' split at h
               all_goals first | (cases h; done) | (cases h; trivial) | exact pre_eff h trivial
  case h_13 => unfold aBuildSlice at h; repeat' split at h
               all_goals first | (cases h; done) | (cases h; trivial) | exact pre_eff h trivial
  case h_14 e0 => rw [e0] at ht; simp [triv] at ht
  case h_15 e0 => rw [e0] at ht; simp [triv] at ht
  case h_16 => unfold aExtract at h; repeat' split at h
               all_goals first | (cases h; done) | (cases h; trivial) | exact pre_eff h trivial
  case h_17 op t x y z e0 =>
    rw [e0] at ht
    unfold aBin at h
    cases op <;> simp [triv] at ht
    all_goals (repeat' split at h)
    all_goals first | (cases h; done) | (cases h; trivial) | exact pre_eff h trivial | (unfold aInt at h; exact pre_eff h trivial) | (simp only [aInt] at h; exact pre_eff h trivial)
  case h_18 op t x e0 =>
    rw [e0] at ht
    cases op <;> simp [triv] at ht
    unfold aUn at h
    repeat' split at h
    all_goals first | (cases h; done) | (cases h; trivial) | exact pre_eff h trivial
  case h_19 => unfold aConvert at h; repeat' split at h
               all_goals first | (cases h; done) | (cases h; trivial) | exact pre_eff h trivial
  case h_20 => unfold aNilCheck at h; repeat' split at h
               all_goals first | (cases h; done) | (cases h; trivial) | exact pre_eff h trivial
  case h_21 => unfold aMakeFunc at h; repeat' split at h
               all_goals first | (cases h; done) | (cases h; trivial) | exact pre_eff h trivial
  case h_22 c e0 =>
    rw [e0] at ht
    simp only [triv] at ht
    split at h
    · rename_i e1; rw [e1] at ht; simp at ht
    · rename_i e1
      rw [e1] at ht
      split at h
      · unfold aLen at h; repeat' split at h
        all_goals first | (cases h; done) | (cases h; trivial) | exact pre_eff h trivial
      · simp at ht
      · unfold aCopy at h; repeat' split at h
        all_goals first | (cases h; done) | (cases h; trivial) | exact pre_eff h trivial | (unfold aCopyS at h; repeat' split at h) <;> first | (cases h; done) | (cases h; trivial)
      · simp at ht
      · repeat' split at h
        all_goals first | (cases h; done) | (cases h; trivial) | exact pre_eff h trivial
      · repeat' split at h
        all_goals first | (cases h; done) | (cases h; trivial) | exact pre_eff h trivial
      · cases h
    · cases h
  case h_23 => cases h

/-! ### One region -/
def gndT (o : Op) (v : V) : Bool := match o with
  | .store _ _ _ => match v with | .c _ => false | _ => true
  | o => triv o

def gnd (o : Oper) (e : Eff) (X : Prop) : Prop := match gndT o.op e.val with
  | true => X
  | false => e.pre ∧ X

def runG (cx : Cx) (ops : List Oper) : List Oper → St → List TU → (St → List TU → Prop) → Prop
  | [], st, acc, Q => Q st acc
  | o :: l, st, acc, Q => match o.guard with
    | none => match stepE cx o st with
      | some e => gnd o e (runG cx ops l (st.upd o e) ((touched o st.eval, maskU e.upd) :: acc) Q)
      | none => False
    | some (j, b) => match (lget ops j).bind (·.dst) with
      | none => False
      | some d => match st.env d with
        | .d f .bool x => match b with
          | true => if x = true then (match stepE cx o (st.lit d f true) with
              | some e => gnd o e (runG cx ops l ((st.lit d f true).upd o e) ((touched o (st.lit d f true).eval, maskU e.upd) :: acc) Q)
              | none => False) else runG cx ops l ((st.lit d f false).upd o skipE) (([], []) :: acc) Q
          | false => if x = true then runG cx ops l ((st.lit d f true).upd o skipE) (([], []) :: acc) Q else (match stepE cx o (st.lit d f false) with
              | some e => gnd o e (runG cx ops l ((st.lit d f false).upd o e) ((touched o (st.lit d f false).eval, maskU e.upd) :: acc) Q)
              | none => False)
        | .c (.tuple ⟨[]⟩) => runG cx ops l (st.upd o skipE) (([], []) :: acc) Q
        | _ => False

theorem stepE_act {cx : Cx} {o : Oper} {st : St} {e : Eff} (h : stepE cx o st = some e) : act cx o st.eval (rst (touched o st.eval) st.loc) = some e := by
  unfold stepE at h
  repeat' split at h
  all_goals first | (cases h; done) | (cases h; assumption)

theorem gnd_pre {cx : Cx} {o : Oper} {st : St} {e : Eff} {X : Prop} (h : stepE cx o st = some e) (hg : gnd o e X) : e.pre ∧ X := by
  unfold gnd at hg
  split at hg
  · rename_i ht
    refine ⟨triv_pre ?_ ?_ (stepE_act h), hg⟩
    · unfold gndT at ht
      split at ht
      · rename_i e0; rw [e0]; rfl
      · exact ht
    · intro t a v e0 u e1
      rw [e0, e1] at ht
      cases ht
  · exact hg

theorem runL_of_runG {cx : Cx} {ops : List Oper} : ∀ (l : List Oper) (st : St) (acc : List TU) (Q : St → List TU → Prop), runG cx ops l st acc Q → runL cx ops l st acc Q
  | [], st, acc, Q, h => h
  | o :: l, st, acc, Q, h => by
    have one : ∀ (st : St) (Q : St → List TU → Prop), (match stepE cx o st with | some e => gnd o e (runG cx ops l (st.upd o e) ((touched o st.eval, maskU e.upd) :: acc) Q) | none => False) →
        runO cx o st fun e tu => runL cx ops l (st.upd o e) (tu :: acc) Q := by
      intro st Q h
      unfold runO
      split at h
      · rename_i e he
        obtain ⟨h1, h2⟩ := gnd_pre he h
        rw [he]
        exact ⟨⟨h1⟩, fun _ _ => runL_of_runG l _ _ Q h2⟩
      · exact h.elim
    unfold runG at h
    unfold runL
    split at h
    · rename_i hg
      rw [hg]
      exact one st Q h
    · rename_i j b hg
      rw [hg]
      dsimp only
      split at h
      · exact h.elim
      · rename_i d hd
        rw [hd]
        dsimp only
        split at h
        · rename_i f x hx
          rw [hx]
          dsimp only
          split at h
          · split at h
            · rename_i hxt
              exact ⟨fun _ => one _ Q h, fun e => by rw [hxt] at e; simp at e⟩
            · rename_i hxt
              exact ⟨fun e => absurd e hxt, fun _ => runL_of_runG l _ _ Q h⟩
          · split at h
            · rename_i hxt
              exact ⟨fun e => by rw [hxt] at e; simp at e, fun _ => runL_of_runG l _ _ Q h⟩
            · rename_i hxt
              exact ⟨fun _ => one _ Q h, fun e => absurd (by simpa using e) hxt⟩
        · rename_i hx
          rw [hx]
          exact runL_of_runG l _ _ Q h
        · exact h.elim

/-! ### What is kept at a label -/
abbrev Pth := List Nat

structure Lay where
  es : List (Nat × Bool)
  ms : List (Nat × Bool)

def canV (m : Mem) (ms : List (Nat × Bool)) (f : Bool) : V → Option V
  | .d h t x => some (.d (h && f) t x)
  | .ept h t x => some (.ept (h && f) t x)
  | .c v => some (.c v)
  | .fnc g t x => some (.fnc g t x)
  | .bnd g t x => some (.bnd g t x)
  | .yld => some .yld
  | .ptr k g p => match cur m k g && has ms k with | true => some (.ptr k 0 p) | false => none
  | .own k g => match has ms k with
    | true => match cur m k g with | true => some (.own k 0) | false => none
    | false => match m k with
      | some (g', .sl h t xs) => match Nat.beq g g' with | true => some (.d (h && f) (.sl t) xs) | false => none
      | some (g', .fz h t xs) => match Nat.beq g g' with | true => some (.d (h && f) (.sl t) xs) | false => none
      | _ => none
  | _ => some .any

def canE (st : St) (ms : List (Nat × Bool)) : List (Nat × Bool) → Option (List (Nat × V))
  | [] => some []
  | (n, f) :: l => match canV st.loc ms f (st.env n) with
    | some v => match canE st ms l with
      | some r => some ((n, v) :: r)
      | none => none
    | none => none

def canL (f : Bool) : L → L
  | .box h t x => .box (h && f) t x
  | .sl h t xs => .sl (h && f) t xs
  | .fz h t xs => .fz (h && f) t xs
  | .fb h t x => .fb (h && f) t x
  | .nl h t xss _ hole => .nl (h && f) t xss 0 hole
  | .mv => .mv
  | .it A ys k => .it A ys k
  | .itx => .itx
  | .rg fr A ys k => .rg fr A ys k

def canM (m : Mem) : List (Nat × Bool) → Option (List (Nat × L))
  | [] => some []
  | (k, f) :: l => match m k with
    | some (_, v) => match canM m l with
      | some r => some ((k, canL f v) :: r)
      | none => none
    | none => none

def canK (ly : Lay) (K : Lst → Prop) (st : St) : Prop := match canE st ly.ms ly.es with
  | some E => match canM st.loc ly.ms with
    | some M => K (E, M)
    | none => False
  | none => False

section
variable {P : Program} {B : Bs} {w0 : World} {cx : Cx}

theorem lk_canE {st : St} {ms : List (Nat × Bool)} : ∀ {l : List (Nat × Bool)} {E : List (Nat × V)}, canE st ms l = some E → ∀ n v, lk E n = some v → ∃ f, canV st.loc ms f (st.env n) = some v
  | [], E, h, n, v, hv => by cases h; simp [lk] at hv
  | (k, f) :: l, E, h, n, v, hv => by
    simp only [canE] at h
    split at h
    · rename_i v0 e0
      split at h
      · rename_i r er
        cases h
        simp only [lk] at hv
        split at hv
        · rename_i hk
          cases hv
          obtain rfl := Nat.eq_of_beq_eq_true hk
          exact ⟨f, e0⟩
        · exact lk_canE er n v hv
      · cases h
    · cases h

theorem lk_canM {m : Mem} : ∀ {l : List (Nat × Bool)} {M : List (Nat × L)}, canM m l = some M → (∀ k, has M k = has l k) ∧ ∀ k v, lk M k = some v → ∃ g v0 f, m k = some (g, v0) ∧ v = canL f v0
  | [], M, h => by cases h; exact ⟨fun k => rfl, fun k v h => by simp [lk] at h⟩
  | (n, f) :: l, M, h => by
    simp only [canM] at h
    split at h
    · rename_i g v0 e0
      split at h
      · rename_i r er
        cases h
        obtain ⟨i1, i2⟩ := lk_canM er
        refine ⟨fun k => ?_, fun k v hv => ?_⟩
        · have := i1 k
          unfold has at this ⊢
          simp only [lk]
          cases Nat.beq n k with
          | true => rfl
          | false => exact this
        · simp only [lk] at hv
          split at hv
          · rename_i hk
            cases hv
            obtain rfl := Nat.eq_of_beq_eq_true hk
            exact ⟨g, v0, f, e0, rfl⟩
          · exact i2 k v hv
      · cases h
    · cases h

theorem canL_mut (f : Bool) (l : L) : (canL f l).mut = l.mut := by cases l <;> rfl
theorem canL_own (f : Bool) (l : L) (g : Gh) (b : Nat) : ownL g (canL f l) b = ownL g l b := by cases l <;> rfl

theorem can_relG {G : Nat → Gh} {st : St} {ly : Lay} {E : List (Nat × V)} {M : List (Nat × L)} (h1 : canE st ly.ms ly.es = some E) (h2 : canM st.loc ly.ms = some M) {a : Act} {w : World} (hm : MRel P B G st.loc w w0) (he : ∀ t, ERep P B G st.loc w (st.env t) (a.tmps.getD t undef)) :
    MRel P B G (mkLoc M) w w0 ∧ (∀ t, ERep P B G (mkLoc M) w ((mkSt (E, M)).env t) (a.tmps.getD t undef)) ∧ ∀ f b, dS B G st.loc f b → dS B G (mkLoc M) f b := by
  obtain ⟨hh, hM⟩ := lk_canM h2
  have hMm : ∀ {k g l}, mkLoc M k = some (g, l) → g = 0 ∧ ∃ g0 l0 f, st.loc k = some (g0, l0) ∧ l = canL f l0 := fun h => by
    obtain ⟨e1, e2⟩ := mkLoc_some h
    exact ⟨e1, hM _ _ e2⟩
  have hdS : ∀ f b, dS B G st.loc f b → dS B G (mkLoc M) f b := fun f b hb => ⟨hb.1, fun k g l hk hmut e => by
    obtain ⟨_, g0, l0, f0, e1, rfl⟩ := hMm hk
    rw [canL_own] at e
    exact hb.2.1 k g0 l0 e1 (by rw [← canL_mut f0]; exact hmut) e, hb.2.2⟩
  have hc : ∀ {t : T} {h f : Bool} {y : t.den} {cs : List Value}, (reps P t).c w (dS B G st.loc h) y cs → (reps P t).c w (dS B G (mkLoc M) (h && f)) y cs := fun h' => c_mono _ h' fun b _ hb => hdS _ b (dS_and b hb (fun e => by rw [e]; rfl))
  have hm' : MRel P B G (mkLoc M) w w0 := by
    refine ⟨hm.low, hm.base, ?_, ?_, ⟨hm.frn.1, ?_⟩, hm.lbd⟩
    · intro k g l hk
      obtain ⟨_, g0, l0, f0, e1, rfl⟩ := hMm hk
      have hl := hm.loc k g0 l0 e1
      cases l0 with
      | box h t x =>
        obtain ⟨b, cur, e, a1, a2, a3, a4, a5⟩ := hl
        exact ⟨b, cur, e, a1, a2, a3, a4, hc a5⟩
      | sl h t xs =>
        unfold LRep at hl
        exact hl.keep (Keep.refl (fun b => B.n ≤ b) w) (fun _ _ h => h) fun _ _ h => hc h
      | fz h t xs =>
        unfold LRep at hl
        exact hc hl
      | fb h t x =>
        obtain ⟨b, a1, a2⟩ := hl
        exact ⟨b, a1, hc (t := .ref t) a2⟩
      | nl h t xss v hole =>
        obtain ⟨vs, a1, a2, a3, a4, a5⟩ := hl
        exact ⟨vs, a1, a2, a3, fun n xs hn hh => (a4 n xs hn hh).keep (Keep.refl (fun b => B.n ≤ b) w) (fun _ _ h => h) fun _ _ h => hc h, a5⟩
      | mv => trivial
      | rg fr A ys i => trivial
      | it A ys i =>
        obtain ⟨ak, a0, a1, a2, a3⟩ := hl
        exact ⟨ak, a0, a1, fun b hb => ⟨(a2 b hb).1, (a2 b hb).2.1, hdS _ b (a2 b hb).2.2⟩, a3⟩
      | itx =>
        obtain ⟨ak, a1, a2, a3⟩ := hl
        exact ⟨ak, a1, fun b hb => ⟨(a2 b hb).1, (a2 b hb).2.1, hdS _ b (a2 b hb).2.2⟩, a3⟩
    · intro k k' g g' l l' b hk hk' hmut hmut' e e'
      obtain ⟨_, g0, l0, f0, a1, rfl⟩ := hMm hk
      obtain ⟨_, g1, l1, f1, b1, rfl⟩ := hMm hk'
      rw [canL_own] at e e'
      exact hm.inj k k' g0 g1 l0 l1 b a1 b1 (by rw [← canL_mut f0]; exact hmut) (by rw [← canL_mut f1]; exact hmut') e e'
    · intro k g l b hk hmut e
      obtain ⟨_, g0, l0, f0, a1, rfl⟩ := hMm hk
      rw [canL_own] at e
      exact hm.frn.2 k g0 l0 b a1 (by rw [← canL_mut f0]; exact hmut) e
  have hold : ∀ {k g : Nat}, cur st.loc k g = true → has ly.ms k = true → ∃ l f, st.loc k = some (g, l) ∧ mkLoc M k = some (0, canL f l) := by
    intro k g e1 e2
    rw [← hh] at e2
    unfold has at e2
    split at e2
    · rename_i l' e
      obtain ⟨g0, l, f, e3, rfl⟩ := hM k l' e
      unfold cur at e1
      rw [e3] at e1
      obtain rfl := Nat.eq_of_beq_eq_true e1
      exact ⟨l, f, e3, by unfold mkLoc; rw [e]⟩
    · cases e2
  have hext : ∀ (f : Bool) (l : L) (Gk : Gh), (∀ p v, ptrOK Gk p v l → ptrOK Gk p v (canL f l)) ∧ hdrOf Gk l = hdrOf Gk (canL f l) := by
    intro f l Gk
    cases l
    case box h t x => exact ⟨fun _ _ h => h, by cases t <;> rfl⟩
    case fb h t x => exact ⟨fun _ _ h => h, by cases t <;> rfl⟩
    all_goals exact ⟨fun _ _ h => h, rfl⟩
  have hnew : ∀ {k g0 : Nat} {l0 : L}, has ly.ms k = false → st.loc k = some (g0, l0) → l0.mut = true → ∀ f b, B.n ≤ b → ownL (G k) l0 b → dS B G (mkLoc M) f b := by
    intro k g0 l0 e1 e2 e3 f b hb e4
    refine ⟨⟨fun _ => hb, .inl hb⟩, fun k' g l hk hmut e5 => ?_, fun hT => hm.frn.2 k g0 l0 b e2 e3 e4 (.inl hT)⟩
    obtain ⟨_, g1, l1, f1, e6, rfl⟩ := hMm hk
    rw [canL_own] at e5
    obtain rfl := hm.inj k k' g0 g1 l0 l1 b e2 e6 e3 (by rw [← canL_mut f1]; exact hmut) e4 e5
    have := hh k
    rw [e1] at this
    unfold has at this
    rw [(mkLoc_some hk).2] at this
    cases this
  refine ⟨hm', fun t => ?_, hdS⟩
  have ht := he t
  show ERep P B G (mkLoc M) w (match lk E t with | some v => v | none => .any) _
  split
  · rename_i v' e
    obtain ⟨f, hv⟩ := lk_canE h1 t v' e
    cases hV : st.env t with
    | any => rw [hV] at hv; cases hv; trivial
    | d h s x =>
      rw [hV] at hv ht; cases hv
      obtain ⟨cs, e1, e2⟩ := ht
      exact ⟨cs, e1, hc e2⟩
    | c v => rw [hV] at hv ht; cases hv; exact ht
    | ept h s x =>
      rw [hV] at hv ht; cases hv
      obtain ⟨b, o, cs, e1, e2, e3, e4, e5⟩ := ht
      exact ⟨b, o, cs, e1, hdS _ b (dS_and b e2 (fun e => by rw [e]; rfl)), e3, e4, hc e5⟩
    | fnc g s x =>
      rw [hV] at hv ht; cases hv
      obtain ⟨caps, e1, e2⟩ := ht
      exact ⟨caps, e1, v_mono _ e2 fun b hb => hdS _ b hb⟩
    | bnd g s x =>
      rw [hV] at hv ht; cases hv
      obtain ⟨caps, e1, e2⟩ := ht
      exact ⟨caps, e1, v_mono _ e2 fun b hb => hdS _ b hb⟩
    | tup n l => rw [hV] at hv; cases hv; trivial
    | ub p q => rw [hV] at hv; cases hv; trivial
    | sub k g lo hi => rw [hV] at hv; cases hv; trivial
    | inn k g h n => rw [hV] at hv; cases hv; trivial
    | ipt k g h n p => rw [hV] at hv; cases hv; trivial
    | yld => rw [hV] at hv ht; cases hv; exact ht
    | ptr k g p =>
      rw [hV] at hv ht
      simp only [canV] at hv
      split at hv
      · rename_i hb
        cases hv
        rw [Bool.and_eq_true] at hb
        obtain ⟨l, f', a1, a2⟩ := hold hb.1 hb.2
        obtain ⟨g2, l2, b1, b2, b3⟩ := ht
        rw [a1] at b1; cases b1
        exact ⟨0, _, a2, Nat.le_refl _, fun _ => (hext f' l _).1 _ _ (b3 rfl)⟩
      · cases hv
    | own k g =>
      rw [hV] at hv ht
      simp only [canV] at hv
      split at hv
      · rename_i hb
        split at hv
        · rename_i hcur
          cases hv
          obtain ⟨l, f', a1, a2⟩ := hold hcur hb
          obtain ⟨g2, l2, b1, b2, b3⟩ := ht
          rw [a1] at b1; cases b1
          exact ⟨0, _, a2, Nat.le_refl _, fun _ => by rw [← (hext f' l _).2]; exact b3 rfl⟩
        · cases hv
      · rename_i hb
        obtain ⟨g2, l2, b1, b2, b3⟩ := ht
        rw [b1] at hv
        cases l2 with
        | box h s x => simp at hv
        | sl h s xs =>
          dsimp only at hv
          split at hv
          · rename_i hg
            cases hv
            obtain rfl := Nat.eq_of_beq_eq_true hg
            have hl := hm.loc k g _ b1
            have e3 : _ = (G k).hdr := b3 rfl
            rw [e3]
            have hq : repOwn ((reps P s).c w (dS B G st.loc h)) s.csize w (fun b => B.n ≤ b) xs (G k).hdr (G k).blk := hl
            refine ⟨[(G k).hdr], rfl, _, rfl, repSl_of_own hq (fun b o e5 => ?_) fun _ _ h' => hc h'⟩
            have hB : B.n ≤ b := by
              rcases hq with ⟨_, _, e6⟩ | ⟨b', off, cap, cr, e6, e7, _, e8, _⟩
              · rw [e6] at e5; cases e5
              · rw [e7] at e5; cases e5; exact e8
            exact hnew hb b1 rfl _ b hB ⟨o, e5⟩
          · cases hv
        | fz h s xs =>
          dsimp only at hv
          split at hv
          · rename_i hg
            cases hv
            obtain rfl := Nat.eq_of_beq_eq_true hg
            have hl := hm.loc k g _ b1
            have e3 : _ = (G k).hdr := b3 rfl
            rw [e3]
            exact ⟨[(G k).hdr], rfl, hc (t := .sl s) hl⟩
          · cases hv
        | _ => cases hv
  · trivial

theorem can_rel {n : Nat} {st : St} {ly : Lay} {E : List (Nat × V)} {M : List (Nat × L)} (h1 : canE st ly.ms ly.es = some E) (h2 : canM st.loc ly.ms = some M) {a : Act} {w : World} (hR : Rel P B w0 n st a w) : Rel P B w0 n (mkSt (E, M)) a w := by
  obtain ⟨G, hm, he⟩ := hR.ex
  obtain ⟨a1, a2, _⟩ := can_relG h1 h2 hm he
  exact ⟨⟨G, a1, a2⟩, hR.sz, hR.nd, hR.kp⟩

end

end Go.Tk
