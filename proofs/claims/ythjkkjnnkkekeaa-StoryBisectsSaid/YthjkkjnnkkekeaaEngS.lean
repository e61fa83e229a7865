/- The engine, part S: the run with labels at its loops' heads (and at joins): what a function's code does, as one proposition for each stretch between labels. No conditions. -/
import Derived.Test.YthjkkjnnkkekeaaEngQ
set_option linter.unusedSimpArgs false
set_option linter.unusedVariables false
namespace Go.Tk
open Go Go.RowKit

/-! ### Operations that ask for nothing -/
def triv : Op → Bool
  | .move _ => true | .assign _ => true | .alloc _ => true | .box _ _ => true | .load _ _ => true | .store _ _ _ => true | .fieldAddr _ _ _ => true | .field _ _ _ => true
  | .build _ _ => true | .buildSlice _ _ _ => true | .extract _ _ => true | .convert _ _ _ => true | .nilCheck _ => true | .makeFunc _ _ _ => true
  | .unOp .not _ _ => true
  | .binOp .eql _ _ _ _ => true | .binOp .neq _ _ _ _ => true | .binOp .lss _ _ _ _ => true | .binOp .leq _ _ _ _ => true | .binOp .gtr _ _ _ _ => true | .binOp .geq _ _ _ _ => true
  | .call c => match c.callee with
    | .builtin .len => true | .builtin .copy => true | .builtin .min => true | .builtin .max => true
    | _ => false
  | _ => false

theorem pre_eff {p : Prop} {v : V} {e : Eff} (h : eff p v = some e) (hp : p) : e.pre := by cases h; exact hp

theorem triv_pre {cx : Cx} {o : Oper} {ev : Operand → V} {m : Mem} {e : Eff} (ht : triv o.op = true) (h : act cx o ev m = some e) : e.pre := by
  unfold act at h
  split at h
  case h_1 => unfold aMove at h; repeat' split at h
              all_goals first | (cases h; done) | (cases h; trivial) | exact pre_eff h trivial
  case h_2 => unfold aMove at h; repeat' split at h
              all_goals first | (cases h; done) | (cases h; trivial) | exact pre_eff h trivial
  case h_3 e0 => rw [e0] at ht; simp [triv] at ht
  case h_4 => unfold aAlloc at h; repeat' split at h
              all_goals first | (cases h; done) | (cases h; trivial) | exact pre_eff h trivial
  case h_5 => unfold aBox at h; repeat' split at h
              all_goals first | (cases h; done) | (cases h; trivial) | exact pre_eff h trivial
  case h_6 => unfold aLoad at h; repeat' split at h
              all_goals first | (cases h; done) | (cases h; trivial) | exact pre_eff h trivial
  case h_7 => 
    split at h
    · unfold aStore at h; repeat' split at h
      all_goals first | (cases h; done) | (cases h; trivial) | exact pre_eff h trivial
    · cases h
  case h_8 => unfold aFieldAddr at h; repeat' split at h
              all_goals first | (cases h; done) | (cases h; trivial) | exact pre_eff h trivial
  case h_9 => unfold aField at h; repeat' split at h
              all_goals first | (cases h; done) | (cases h; trivial) | exact pre_eff h trivial
  case h_10 e0 => rw [e0] at ht; simp [triv] at ht
  case h_11 e0 => rw [e0] at ht; simp [triv] at ht
  case h_12 => unfold aBuild at h; repeat' split at h
               all_goals first | (cases h; done) | (cases h; trivial) | exact pre_eff h trivial
  case h_13 => unfold aBuildSlice at h; repeat' split at h
               all_goals first | (cases h; done) | (cases h; trivial) | exact pre_eff h trivial
  case h_14 e0 => rw [e0] at ht; simp [triv] at ht
  case h_15 e0 => rw [e0] at ht; simp [triv] at ht
  case h_16 => unfold aExtract at h; repeat' split at h
               all_goals first | (cases h; done) | (cases h; trivial) | exact pre_eff h trivial
  case h_17 op t x y z e0 =>
    rw [e0] at ht
    unfold aBin at h
    cases op <;> simp [triv] at ht
    all_goals (repeat' split at h)
    all_goals first | (cases h; done) | (cases h; trivial) | exact pre_eff h trivial | (unfold aInt at h; exact pre_eff h trivial) | (simp only [aInt] at h; exact pre_eff h trivial)
  case h_18 op t x e0 =>
    rw [e0] at ht
    cases op <;> simp [triv] at ht
    unfold aUn at h
    repeat' split at h
    all_goals first | (cases h; done) | (cases h; trivial) | exact pre_eff h trivial
  case h_19 => unfold aConvert at h; repeat' split at h
               all_goals first | (cases h; done) | (cases h; trivial) | exact pre_eff h trivial
  case h_20 => unfold aNilCheck at h; repeat' split at h
               all_goals first | (cases h; done) | (cases h; trivial) | exact pre_eff h trivial
  case h_21 => unfold aMakeFunc at h; repeat' split at h
               all_goals first | (cases h; done) | (cases h; trivial) | exact pre_eff h trivial
  case h_22 c e0 =>
    rw [e0] at ht
    simp only [triv] at ht
    split at h
    · rename_i e1; rw [e1] at ht; simp at ht
    · rename_i e1
      rw [e1] at ht
      split at h
      · unfold aLen at h; repeat' split at h
        all_goals first | (cases h; done) | (cases h; trivial) | exact pre_eff h trivial
      · simp at ht
      · unfold aCopy at h; repeat' split at h
        all_goals first | (cases h; done) | (cases h; trivial) | exact pre_eff h trivial | (unfold aCopyS at h; repeat' split at h) <;> first | (cases h; done) | (cases h; trivial)
      · repeat' split at h
        all_goals first | (cases h; done) | (cases h; trivial) | exact pre_eff h trivial
      · repeat' split at h
        all_goals first | (cases h; done) | (cases h; trivial) | exact pre_eff h trivial
      · cases h
    · cases h
  case h_23 => cases h

/-! ### One region -/
def gnd (o : Oper) (e : Eff) (X : Prop) : Prop := match triv o.op with
  | true => X
  | false => e.pre ∧ X

def runG (cx : Cx) (ops : List Oper) : List Oper → St → List TU → (St → List TU → Prop) → Prop
  | [], st, acc, Q => Q st acc
  | o :: l, st, acc, Q => match o.guard with
    | none => match stepE cx o st with
      | some e => gnd o e (runG cx ops l (st.upd o e) ((touched o st.eval, maskU e.upd) :: acc) Q)
      | none => False
    | some (j, b) => match (lget ops j).bind (·.dst) with
      | none => False
      | some d => match st.env d with
        | .d f .bool x => match b with
          | true => if x = true then (match stepE cx o (st.lit d f true) with
              | some e => gnd o e (runG cx ops l ((st.lit d f true).upd o e) ((touched o (st.lit d f true).eval, maskU e.upd) :: acc) Q)
              | none => False) else runG cx ops l ((st.lit d f false).upd o skipE) (([], []) :: acc) Q
          | false => if x = true then runG cx ops l ((st.lit d f true).upd o skipE) (([], []) :: acc) Q else (match stepE cx o (st.lit d f false) with
              | some e => gnd o e (runG cx ops l ((st.lit d f false).upd o e) ((touched o (st.lit d f false).eval, maskU e.upd) :: acc) Q)
              | none => False)
        | .c (.tuple ⟨[]⟩) => runG cx ops l (st.upd o skipE) (([], []) :: acc) Q
        | _ => False

theorem stepE_act {cx : Cx} {o : Oper} {st : St} {e : Eff} (h : stepE cx o st = some e) : act cx o st.eval (rst (touched o st.eval) st.loc) = some e := by
  unfold stepE at h
  repeat' split at h
  all_goals first | (cases h; done) | (cases h; assumption)

theorem gnd_pre {cx : Cx} {o : Oper} {st : St} {e : Eff} {X : Prop} (h : stepE cx o st = some e) (hg : gnd o e X) : e.pre ∧ X := by
  unfold gnd at hg
  split at hg
  · rename_i ht; exact ⟨triv_pre ht (stepE_act h), hg⟩
  · exact hg

theorem runL_of_runG {cx : Cx} {ops : List Oper} : ∀ (l : List Oper) (st : St) (acc : List TU) (Q : St → List TU → Prop), runG cx ops l st acc Q → runL cx ops l st acc Q
  | [], st, acc, Q, h => h
  | o :: l, st, acc, Q, h => by
    have one : ∀ (st : St) (Q : St → List TU → Prop), (match stepE cx o st with | some e => gnd o e (runG cx ops l (st.upd o e) ((touched o st.eval, maskU e.upd) :: acc) Q) | none => False) →
        runO cx o st fun e tu => runL cx ops l (st.upd o e) (tu :: acc) Q := by
      intro st Q h
      unfold runO
      split at h
      · rename_i e he
        obtain ⟨h1, h2⟩ := gnd_pre he h
        rw [he]
        exact ⟨⟨h1⟩, fun _ _ => runL_of_runG l _ _ Q h2⟩
      · exact h.elim
    unfold runG at h
    unfold runL
    split at h
    · rename_i hg
      rw [hg]
      exact one st Q h
    · rename_i j b hg
      rw [hg]
      dsimp only
      split at h
      · exact h.elim
      · rename_i d hd
        rw [hd]
        dsimp only
        split at h
        · rename_i f x hx
          rw [hx]
          dsimp only
          split at h
          · split at h
            · rename_i hxt
              exact ⟨fun _ => one _ Q h, fun e => by rw [hxt] at e; simp at e⟩
            · rename_i hxt
              exact ⟨fun e => absurd e hxt, fun _ => runL_of_runG l _ _ Q h⟩
          · split at h
            · rename_i hxt
              exact ⟨fun e => by rw [hxt] at e; simp at e, fun _ => runL_of_runG l _ _ Q h⟩
            · rename_i hxt
              exact ⟨fun _ => one _ Q h, fun e => absurd (by simpa using e) hxt⟩
        · rename_i hx
          rw [hx]
          exact runL_of_runG l _ _ Q h
        · exact h.elim

/-! ### What is kept at a label -/
abbrev Pth := List Nat

structure Lay where
  es : List (Nat × Bool)
  ms : List (Nat × Bool)

def canV (m : Mem) (ms : List (Nat × Bool)) (f : Bool) : V → Option V
  | .d h t x => some (.d (h && f) t x)
  | .ept h t x => some (.ept (h && f) t x)
  | .c v => some (.c v)
  | .fnc g t x => some (.fnc g t x)
  | .bnd g t x => some (.bnd g t x)
  | .ptr k g p => match cur m k g && has ms k with | true => some (.ptr k 0 p) | false => none
  | .own k g => match has ms k with
    | true => match cur m k g with | true => some (.own k 0) | false => none
    | false => match m k with
      | some (g', .sl h t xs) => match Nat.beq g g' with | true => some (.d (h && f) (.sl t) xs) | false => none
      | some (g', .fz h t xs) => match Nat.beq g g' with | true => some (.d (h && f) (.sl t) xs) | false => none
      | _ => none
  | _ => some .any

def canE (st : St) (ms : List (Nat × Bool)) : List (Nat × Bool) → Option (List (Nat × V))
  | [] => some []
  | (n, f) :: l => match canV st.loc ms f (st.env n) with
    | some v => match canE st ms l with
      | some r => some ((n, v) :: r)
      | none => none
    | none => none

def canL (f : Bool) : L → L
  | .box h t x => .box (h && f) t x
  | .sl h t xs => .sl (h && f) t xs
  | .fz h t xs => .fz (h && f) t xs
  | .fb h t x => .fb (h && f) t x

def canM (m : Mem) : List (Nat × Bool) → Option (List (Nat × L))
  | [] => some []
  | (k, f) :: l => match m k with
    | some (_, v) => match canM m l with
      | some r => some ((k, canL f v) :: r)
      | none => none
    | none => none

def canK (ly : Lay) (K : Lst → Prop) (st : St) : Prop := match canE st ly.ms ly.es with
  | some E => match canM st.loc ly.ms with
    | some M => K (E, M)
    | none => False
  | none => False

section
variable {P : Program} {B : Bs} {w0 : World} {cx : Cx}

theorem lk_canE {st : St} {ms : List (Nat × Bool)} : ∀ {l : List (Nat × Bool)} {E : List (Nat × V)}, canE st ms l = some E → ∀ n v, lk E n = some v → ∃ f, canV st.loc ms f (st.env n) = some v
  | [], E, h, n, v, hv => by cases h; simp [lk] at hv
  | (k, f) :: l, E, h, n, v, hv => by
    simp only [canE] at h
    split at h
    · rename_i v0 e0
      split at h
      · rename_i r er
        cases h
        simp only [lk] at hv
        split at hv
        · rename_i hk
          cases hv
          obtain rfl := Nat.eq_of_beq_eq_true hk
          exact ⟨f, e0⟩
        · exact lk_canE er n v hv
      · cases h
    · cases h

theorem lk_canM {m : Mem} : ∀ {l : List (Nat × Bool)} {M : List (Nat × L)}, canM m l = some M → (∀ k, has M k = has l k) ∧ ∀ k v, lk M k = some v → ∃ g v0 f, m k = some (g, v0) ∧ v = canL f v0
  | [], M, h => by cases h; exact ⟨fun k => rfl, fun k v h => by simp [lk] at h⟩
  | (n, f) :: l, M, h => by
    simp only [canM] at h
    split at h
    · rename_i g v0 e0
      split at h
      · rename_i r er
        cases h
        obtain ⟨i1, i2⟩ := lk_canM er
        refine ⟨fun k => ?_, fun k v hv => ?_⟩
        · have := i1 k
          unfold has at this ⊢
          simp only [lk]
          cases Nat.beq n k with
          | true => rfl
          | false => exact this
        · simp only [lk] at hv
          split at hv
          · rename_i hk
            cases hv
            obtain rfl := Nat.eq_of_beq_eq_true hk
            exact ⟨g, v0, f, e0, rfl⟩
          · exact i2 k v hv
      · cases h
    · cases h

theorem canL_mut (f : Bool) (l : L) : (canL f l).mut = l.mut := by cases l <;> rfl

theorem can_rel {n : Nat} {st : St} {ly : Lay} {E : List (Nat × V)} {M : List (Nat × L)} (h1 : canE st ly.ms ly.es = some E) (h2 : canM st.loc ly.ms = some M) {a : Act} {w : World} (hR : Rel P B w0 n st a w) : Rel P B w0 n (mkSt (E, M)) a w := by
  obtain ⟨G, hm, he⟩ := hR.ex
  obtain ⟨hh, hM⟩ := lk_canM h2
  have hMm : ∀ {k g l}, mkLoc M k = some (g, l) → g = 0 ∧ ∃ g0 l0 f, st.loc k = some (g0, l0) ∧ l = canL f l0 := fun h => by
    obtain ⟨e1, e2⟩ := mkLoc_some h
    exact ⟨e1, hM _ _ e2⟩
  have hdS : ∀ f b, dS B G st.loc f b → dS B G (mkLoc M) f b := fun f b hb => ⟨hb.1, fun k g l hk hmut o => by
    obtain ⟨_, g0, l0, f0, e1, rfl⟩ := hMm hk
    exact hb.2 k g0 l0 e1 (by rw [← canL_mut f0]; exact hmut) o⟩
  have hc : ∀ {t : T} {h f : Bool} {y : t.den} {cs : List Value}, (reps P t).c w (dS B G st.loc h) y cs → (reps P t).c w (dS B G (mkLoc M) (h && f)) y cs := fun h' => c_mono _ h' fun b _ hb => hdS _ b (dS_and b hb (fun e => by rw [e]; rfl))
  have hm' : MRel P B G (mkLoc M) w w0 := by
    refine ⟨hm.low, hm.base, ?_, ?_⟩
    · intro k g l hk
      obtain ⟨_, g0, l0, f0, e1, rfl⟩ := hMm hk
      have hl := hm.loc k g0 l0 e1
      cases l0 with
      | box h t x =>
        obtain ⟨b, cur, e, a1, a2, a3, a4, a5⟩ := hl
        exact ⟨b, cur, e, a1, a2, a3, a4, hc a5⟩
      | sl h t xs =>
        unfold LRep at hl
        exact hl.keep (Keep.refl (fun b => B.n ≤ b) w) (fun _ _ h => h) fun _ _ h => hc h
      | fz h t xs =>
        unfold LRep at hl
        exact hc hl
      | fb h t x =>
        obtain ⟨b, a1, a2⟩ := hl
        exact ⟨b, a1, hc (t := .ref t) a2⟩
    · intro k k' g g' l l' b o o' hk hk' hmut hmut' e e'
      obtain ⟨_, g0, l0, f0, a1, rfl⟩ := hMm hk
      obtain ⟨_, g1, l1, f1, b1, rfl⟩ := hMm hk'
      exact hm.inj k k' g0 g1 l0 l1 b o o' a1 b1 (by rw [← canL_mut f0]; exact hmut) (by rw [← canL_mut f1]; exact hmut') e e'
  have hold : ∀ {k g : Nat}, cur st.loc k g = true → has ly.ms k = true → ∃ l f, st.loc k = some (g, l) ∧ mkLoc M k = some (0, canL f l) := by
    intro k g e1 e2
    rw [← hh] at e2
    unfold has at e2
    split at e2
    · rename_i l' e
      obtain ⟨g0, l, f, e3, rfl⟩ := hM k l' e
      unfold cur at e1
      rw [e3] at e1
      obtain rfl := Nat.eq_of_beq_eq_true e1
      exact ⟨l, f, e3, by unfold mkLoc; rw [e]⟩
    · cases e2
  have hext : ∀ (f : Bool) (l : L), LExt l (canL f l) := by
    intro f l
    cases l
    · exact LExt.box
    · exact LExt.sl rfl
    · exact ⟨fun _ _ _ _ => trivial, fun _ => rfl, fun _ _ _ _ _ => trivial⟩
    · rename_i t x; exact ⟨fun _ _ _ h => h, fun _ => by cases t <;> rfl, fun _ _ _ _ h => h⟩
  have hnew : ∀ {k g0 : Nat} {l0 : L}, has ly.ms k = false → st.loc k = some (g0, l0) → l0.mut = true → ∀ f b o, dS B G (fun _ => none) f b → (G k).blk = some (b, o) → dS B G (mkLoc M) f b := by
    intro k g0 l0 e1 e2 e3 f b o hb e4
    refine ⟨hb.1, fun k' g l hk hmut o' e5 => ?_⟩
    obtain ⟨_, g1, l1, f1, e6, rfl⟩ := hMm hk
    obtain rfl := hm.inj k k' g0 g1 l0 l1 b o o' e2 e6 e3 (by rw [← canL_mut f1]; exact hmut) e4 e5
    have := hh k
    rw [e1] at this
    unfold has at this
    rw [(mkLoc_some hk).2] at this
    cases this
  refine ⟨⟨G, hm', fun t => ?_⟩, hR.sz, hR.nd⟩
  have ht := he t
  show ERep P B G (mkLoc M) w (match lk E t with | some v => v | none => .any) _
  split
  · rename_i v' e
    obtain ⟨f, hv⟩ := lk_canE h1 t v' e
    cases hV : st.env t with
    | any => rw [hV] at hv; cases hv; trivial
    | d h s x =>
      rw [hV] at hv ht; cases hv
      obtain ⟨cs, e1, e2⟩ := ht
      exact ⟨cs, e1, hc e2⟩
    | c v => rw [hV] at hv ht; cases hv; exact ht
    | ept h s x =>
      rw [hV] at hv ht; cases hv
      obtain ⟨b, o, cs, e1, e2, e3, e4, e5⟩ := ht
      exact ⟨b, o, cs, e1, hdS _ b (dS_and b e2 (fun e => by rw [e]; rfl)), e3, e4, hc e5⟩
    | fnc g s x =>
      rw [hV] at hv ht; cases hv
      obtain ⟨caps, e1, e2⟩ := ht
      exact ⟨caps, e1, v_mono _ e2 fun b hb => hdS _ b hb⟩
    | bnd g s x =>
      rw [hV] at hv ht; cases hv
      obtain ⟨caps, e1, e2⟩ := ht
      exact ⟨caps, e1, v_mono _ e2 fun b hb => hdS _ b hb⟩
    | tup n l => rw [hV] at hv; cases hv; trivial
    | ub p q => rw [hV] at hv; cases hv; trivial
    | sub k g lo hi => rw [hV] at hv; cases hv; trivial
    | ptr k g p =>
      rw [hV] at hv ht
      simp only [canV] at hv
      split at hv
      · rename_i hb
        cases hv
        rw [Bool.and_eq_true] at hb
        obtain ⟨l, f', a1, a2⟩ := hold hb.1 hb.2
        obtain ⟨g2, l2, b1, b2, b3⟩ := ht
        rw [a1] at b1; cases b1
        exact ⟨0, _, a2, Nat.le_refl _, fun _ => (hext f' l).1 _ _ _ (b3 rfl)⟩
      · cases hv
    | own k g =>
      rw [hV] at hv ht
      simp only [canV] at hv
      split at hv
      · rename_i hb
        split at hv
        · rename_i hcur
          cases hv
          obtain ⟨l, f', a1, a2⟩ := hold hcur hb
          obtain ⟨g2, l2, b1, b2, b3⟩ := ht
          rw [a1] at b1; cases b1
          exact ⟨0, _, a2, Nat.le_refl _, fun _ => by rw [← (hext f' l).2.1]; exact b3 rfl⟩
        · cases hv
      · rename_i hb
        obtain ⟨g2, l2, b1, b2, b3⟩ := ht
        rw [b1] at hv
        cases l2 with
        | box h s x => simp at hv
        | sl h s xs =>
          dsimp only at hv
          split at hv
          · rename_i hg
            cases hv
            obtain rfl := Nat.eq_of_beq_eq_true hg
            have hl := hm.loc k g _ b1
            have e3 : _ = (G k).hdr := b3 rfl
            rw [e3]
            have hq : repOwn ((reps P s).c w (dS B G st.loc h)) s.csize w (fun b => B.n ≤ b) xs (G k).hdr (G k).blk := hl
            refine ⟨[(G k).hdr], rfl, _, rfl, repSl_of_own hq (fun b o e5 => ?_) fun _ _ h' => hc h'⟩
            have hB : B.n ≤ b := by
              rcases hq with ⟨_, _, e6⟩ | ⟨b', off, cap, cr, e6, e7, _, e8, _⟩
              · rw [e6] at e5; cases e5
              · rw [e7] at e5; cases e5; exact e8
            exact hnew hb b1 rfl _ b o ⟨⟨fun _ => hB, .inl hB⟩, fun _ _ _ h => by cases h⟩ e5
          · cases hv
        | fz h s xs =>
          dsimp only at hv
          split at hv
          · rename_i hg
            cases hv
            obtain rfl := Nat.eq_of_beq_eq_true hg
            have hl := hm.loc k g _ b1
            have e3 : _ = (G k).hdr := b3 rfl
            rw [e3]
            exact ⟨[(G k).hdr], rfl, hc (t := .sl s) hl⟩
          · cases hv
        | fb h s x => cases hv
  · trivial

end

/-! ### The run -/
def lpK (ly : Option Lay) (Λ : Lst → Prop) (st : St) : Prop := match ly with
  | some ly => canK ly Λ st
  | none => False

def jnK (ly : Option Lay) (Λ : Lst → Prop) (K : St → Prop) (st : St) : Prop := match ly with
  | some ly => canK ly Λ st
  | none => K st

def Wl (cx : Cx) : (Pth → Option Lay) → (Pth → Lst → Prop) → Code → (Exit → St → Prop) → St → Prop
  | _, _, .skip, Φ, st => Φ .normal st
  | _, _, .label _, Φ, st => Φ .normal st
  | _, _, .exit j, Φ, st => Φ (.exit j) st
  | _, _, .ret, Φ, st => Φ .ret st
  | _, _, .region _ ops draw, Φ, st => match draw with
    | false => runG cx ops.toList ops.toList st [] fun st _ => Φ .normal st
    | true => runG cx ops.toList ops.toList st [] fun st acc => match ncB ops.toList acc with | true => Φ .normal st | false => False
  | ly, Λ, .seq a b, Φ, st => Wl cx (fun p => ly (0 :: p)) (fun p => Λ (0 :: p)) a (thenX (jnK (ly [2]) (Λ [2]) (Wl cx (fun p => ly (1 :: p)) (fun p => Λ (1 :: p)) b Φ)) Φ) st
  | ly, Λ, .cond c a b, Φ, st => match st.eval c with
    | .d _ .bool x => if x = true then Wl cx (fun p => ly (0 :: p)) (fun p => Λ (0 :: p)) a Φ st else Wl cx (fun p => ly (1 :: p)) (fun p => Λ (1 :: p)) b Φ st
    | .ub p q => (p → Wl cx (fun p => ly (0 :: p)) (fun p => Λ (0 :: p)) a Φ st) ∧ (q → Wl cx (fun p => ly (1 :: p)) (fun p => Λ (1 :: p)) b Φ st)
    | _ => False
  | ly, Λ, .block id b, Φ, st => Wl cx (fun p => ly (0 :: p)) (fun p => Λ (0 :: p)) b (blockX id Φ) st
  | ly, Λ, .loop b, Φ, st => lpK (ly []) (Λ []) st
  | _, _, _, _, _ => False

/-- What is shown at a label: the stretch behind it. -/
def hdAt (cx : Cx) : (Pth → Option Lay) → (Pth → Lst → Prop) → Code → (Exit → St → Prop) → Pth → Lst → Prop
  | ly, Λ, .seq a b, Φ, p, x => match p with
    | 0 :: p => hdAt cx (fun p => ly (0 :: p)) (fun p => Λ (0 :: p)) a (thenX (jnK (ly [2]) (Λ [2]) (Wl cx (fun p => ly (1 :: p)) (fun p => Λ (1 :: p)) b Φ)) Φ) p x
    | 1 :: p => hdAt cx (fun p => ly (1 :: p)) (fun p => Λ (1 :: p)) b Φ p x
    | 2 :: [] => Wl cx (fun p => ly (1 :: p)) (fun p => Λ (1 :: p)) b Φ (mkSt x)
    | _ => False
  | ly, Λ, .cond _ a b, Φ, p, x => match p with
    | 0 :: p => hdAt cx (fun p => ly (0 :: p)) (fun p => Λ (0 :: p)) a Φ p x
    | 1 :: p => hdAt cx (fun p => ly (1 :: p)) (fun p => Λ (1 :: p)) b Φ p x
    | _ => False
  | ly, Λ, .block id b, Φ, p, x => match p with
    | 0 :: p => hdAt cx (fun p => ly (0 :: p)) (fun p => Λ (0 :: p)) b (blockX id Φ) p x
    | _ => False
  | ly, Λ, .loop b, Φ, p, x => match p with
    | [] => Wl cx (fun p => ly (0 :: p)) (fun p => Λ (0 :: p)) b (thenX (lpK (ly []) (Λ [])) Φ) (mkSt x)
    | 0 :: p => hdAt cx (fun p => ly (0 :: p)) (fun p => Λ (0 :: p)) b (thenX (lpK (ly []) (Λ [])) Φ) p x
    | _ => False
  | _, _, _, _, _, _ => False

section
variable {P : Program} {B : Bs} {w0 : World} {cx : Cx}

/-- A loop that stands at its head. -/
def LoopAt (P : Program) (c : Code) (Q : Exit → Act → World → Prop) (a : Act) (w : World) : Prop :=
  ∀ (b : Frame) (k : List Item) (cs : List Frame), ∃ e a' w', Q e a' w' ∧ Arrives P (lone (b.at a (.code c :: .inLoop c :: k)) cs w) b k cs e a' w'

theorem wp_loopAt {c : Code} {Q : Exit → Act → World → Prop} {a : Act} {w : World} (h : LoopAt P c Q a w) : (Code.loop c).wp P Q a w := fun b k cs =>
  let ⟨e, a', w', q, r⟩ := h b k cs; ⟨e, a', w', q, .of_steps (.one step_loop) r⟩

theorem loopAt_round {c : Code} {Q : Exit → Act → World → Prop} {a : Act} {w : World} (h : c.wp P (Exit.then (LoopAt P c Q) Q) a w) : LoopAt P c Q a w := by
  intro b k cs
  obtain ⟨e, a₁, w₁, hq, harr⟩ := h b (.inLoop c :: k) cs
  cases e with
  | normal =>
    obtain ⟨e₂, a₂, w₂, hq₂, harr₂⟩ := hq b k cs
    exact ⟨e₂, a₂, w₂, hq₂, .of_steps (Steps.trans harr (.one step_inLoop)) harr₂⟩
  | exit id => exact ⟨_, a₁, w₁, hq, .pass (x := .inLoop c) rfl (fun _ _ => .inl (by simp)) harr⟩
  | goto l => exact ⟨_, a₁, w₁, hq, .pass (x := .inLoop c) rfl (fun _ _ => .inl (by simp)) harr⟩
  | ret => exact ⟨_, a₁, w₁, hq, .pass (x := .inLoop c) rfl (fun _ _ => .inl (by simp)) harr⟩
  | panic ch => exact ⟨_, a₁, w₁, hq, .pass (x := .inLoop c) rfl (fun _ _ => .inl (by simp)) harr⟩
  | outgrown => exact ⟨_, a₁, w₁, hq, .pass (x := .inLoop c) rfl (fun _ _ => .inl (by simp)) harr⟩

/-- What a label means: from each world that is as its list says, the rest runs to what is wanted. -/
def Sem (P : Program) (B : Bs) (w0 : World) (n : Nat) : Code → (Exit → Act → World → Prop) → Pth → Lst → Prop
  | .seq a b, Q, p, x => match p with
    | 0 :: p => Sem P B w0 n a (Exit.then (b.wp P Q) Q) p x
    | 1 :: p => Sem P B w0 n b Q p x
    | 2 :: [] => ∀ a w, Rel P B w0 n (mkSt x) a w → b.wp P Q a w
    | _ => False
  | .cond _ a b, Q, p, x => match p with
    | 0 :: p => Sem P B w0 n a Q p x
    | 1 :: p => Sem P B w0 n b Q p x
    | _ => False
  | .block id b, Q, p, x => match p with
    | 0 :: p => Sem P B w0 n b (Exit.inBlock id Q) p x
    | _ => False
  | .loop b, Q, p, x => match p with
    | [] => ∀ a w, Rel P B w0 n (mkSt x) a w → LoopAt P b Q a w
    | 0 :: p => Sem P B w0 n b (Exit.then (LoopAt P b Q) Q) p x
    | _ => False
  | _, _, _, _ => False

theorem canK_ok {ly : Lay} {K : Lst → Prop} {st : St} {n : Nat} {a : Act} {w : World} (h : canK ly K st) (hR : Rel P B w0 n st a w) : ∃ x, K x ∧ Rel P B w0 n (mkSt x) a w := by
  unfold canK at h
  split at h
  · rename_i E hE
    split at h
    · rename_i M hM
      exact ⟨(E, M), h, can_rel hE hM hR⟩
    · exact h.elim
  · exact h.elim

theorem sound (hk : Cok P cx) (hmix : P.follows .mixedOrders = true) : ∀ (c : Code) (ly : Pth → Option Lay) (Φ : Exit → St → Prop) (Q : Exit → Act → World → Prop), okC cx.n c = true → (∀ e st a w, Φ e st → Rel P B w0 cx.n st a w → Q e a w) →
    (∀ st a w, Wl cx ly (Sem P B w0 cx.n c Q) c Φ st → Rel P B w0 cx.n st a w → c.wp P Q a w) ∧ ∀ p x, hdAt cx ly (Sem P B w0 cx.n c Q) c Φ p x → Sem P B w0 cx.n c Q p x := by
  intro c
  induction c with
  | skip => intro ly Φ Q _ hΦ; exact ⟨fun st a w h hR => wp_skip (hΦ _ _ _ _ h hR), fun p x h => h.elim⟩
  | label l => intro ly Φ Q _ hΦ; exact ⟨fun st a w h hR => wp_label (hΦ _ _ _ _ h hR), fun p x h => h.elim⟩
  | exit j => intro ly Φ Q _ hΦ; exact ⟨fun st a w h hR => wp_exit (hΦ _ _ _ _ h hR), fun p x h => h.elim⟩
  | ret => intro ly Φ Q _ hΦ; exact ⟨fun st a w h hR => wp_ret (hΦ _ _ _ _ h hR), fun p x h => h.elim⟩
  | region id ops draw =>
    intro ly Φ Q hok hΦ
    simp only [okC, Bool.and_eq_true, Bool.or_eq_true] at hok
    refine ⟨fun st a w h hR => ?_, fun p x h => h.elim⟩
    cases draw with
    | false => exact region_wp hk hR hok.1 (runL_of_runG _ _ _ _ h) fun st a w h hR => hΦ _ _ _ _ h hR
    | true => exact region_draw_wp hk hmix hR hok.1 (by simpa using hok.2) (runL_of_runG _ _ _ (fun st acc => ncB ops.toList acc = true ∧ Φ .normal st) (by
        have e : (fun (st : St) (acc : List TU) => match ncB ops.toList acc with | true => Φ .normal st | false => False) = fun st acc => ncB ops.toList acc = true ∧ Φ .normal st := by
          funext st acc
          cases ncB ops.toList acc <;> simp
        rw [← e]; exact h)) fun st a w h hR => hΦ _ _ _ _ h hR
  | seq x y ihx ihy =>
    intro ly Φ Q hok hΦ
    simp only [okC, Bool.and_eq_true] at hok
    obtain ⟨y1, y2⟩ := ihy (fun p => ly (1 :: p)) Φ Q hok.2 hΦ
    have hx : ∀ e st a w, thenX (jnK (ly [2]) (Sem P B w0 cx.n (.seq x y) Q [2]) (Wl cx (fun p => ly (1 :: p)) (fun p => Sem P B w0 cx.n (.seq x y) Q (1 :: p)) y Φ)) Φ e st → Rel P B w0 cx.n st a w → Exit.then (y.wp P Q) Q e a w := by
      intro e st a w h hR
      cases e with
      | normal =>
        simp only [thenX, jnK] at h
        split at h
        · obtain ⟨z, h1, h2⟩ := canK_ok h hR
          exact h1 a w h2
        · exact y1 st a w h hR
      | _ => exact hΦ _ _ _ _ h hR
    obtain ⟨x1, x2⟩ := ihx (fun p => ly (0 :: p)) (thenX (jnK (ly [2]) (Sem P B w0 cx.n (.seq x y) Q [2]) (Wl cx (fun p => ly (1 :: p)) (fun p => Sem P B w0 cx.n (.seq x y) Q (1 :: p)) y Φ)) Φ) (Exit.then (y.wp P Q) Q) hok.1 hx
    refine ⟨fun st a w h hR => wp_seq (x1 st a w h hR), fun p z h => ?_⟩
    match p, h with
    | 0 :: p, h => exact x2 p z h
    | 1 :: p, h => exact y2 p z h
    | [2], h => exact fun a w hR => y1 _ a w h hR
    | [], h => exact h.elim
    | 2 :: _ :: _, h => exact h.elim
    | (_ + 3) :: _, h => exact h.elim
  | cond c x y ihx ihy =>
    intro ly Φ Q hok hΦ
    simp only [okC, Bool.and_eq_true] at hok
    obtain ⟨y1, y2⟩ := ihy (fun p => ly (1 :: p)) Φ Q hok.2 hΦ
    obtain ⟨x1, x2⟩ := ihx (fun p => ly (0 :: p)) Φ Q hok.1 hΦ
    refine ⟨fun st a w h hR => ?_, fun p z h => ?_⟩
    · simp only [Wl] at h
      split at h
      · rename_i f b hc
        obtain ⟨G, hm, he⟩ := hR.ex
        have hv := eval_ok he c
        rw [hc] at hv
        obtain ⟨cs, e1, e2⟩ := hv
        have e2 : cs = [.bool b] := e2
        subst e2
        have e1 : a.eval c = .bool b := e1
        cases b with
        | true => rw [if_pos rfl] at h; exact wp_cond_true e1 (x1 st a w h hR)
        | false => rw [if_neg (by simp)] at h; exact wp_cond_false e1 (y1 st a w h hR)
      · rename_i p q hc
        obtain ⟨G, hm, he⟩ := hR.ex
        have hv := eval_ok he c
        rw [hc] at hv
        obtain ⟨b, e1, e2, e3⟩ := hv
        cases b with
        | true => exact wp_cond_true e1 (x1 st a w (h.1 (e2 rfl)) hR)
        | false => exact wp_cond_false e1 (y1 st a w (h.2 (e3 rfl)) hR)
      · exact h.elim
    · match p, h with
      | 0 :: p, h => exact x2 p z h
      | 1 :: p, h => exact y2 p z h
      | [], h => exact h.elim
      | (_ + 2) :: _, h => exact h.elim
  | block id x ih =>
    intro ly Φ Q hok hΦ
    obtain ⟨x1, x2⟩ := ih (fun p => ly (0 :: p)) (blockX id Φ) (Exit.inBlock id Q) hok (by
      intro e st a w h hR
      cases e with
      | exit j =>
        simp only [blockX] at h
        simp only [Exit.inBlock]
        split at h
        · rename_i hj
          rw [if_pos (Nat.eq_of_beq_eq_true hj)]
          exact hΦ _ _ _ _ h hR
        · rename_i hj
          rw [if_neg (fun e => by rw [e] at hj; simp at hj)]
          exact hΦ _ _ _ _ h hR
      | _ => exact hΦ _ _ _ _ h hR)
    refine ⟨fun st a w h hR => wp_block (x1 st a w h hR), fun p z h => ?_⟩
    match p, h with
    | 0 :: p, h => exact x2 p z h
    | [], h => exact h.elim
    | (_ + 1) :: _, h => exact h.elim
  | loop x ih =>
    intro ly Φ Q hok hΦ
    have hL : ∀ st a w, lpK (ly []) (Sem P B w0 cx.n (.loop x) Q []) st → Rel P B w0 cx.n st a w → LoopAt P x Q a w := by
      intro st a w h hR
      unfold lpK at h
      split at h
      · obtain ⟨z, h1, h2⟩ := canK_ok h hR
        exact h1 a w h2
      · exact h.elim
    obtain ⟨x1, x2⟩ := ih (fun p => ly (0 :: p)) (thenX (lpK (ly []) (Sem P B w0 cx.n (.loop x) Q [])) Φ) (Exit.then (LoopAt P x Q) Q) hok (by
      intro e st a w h hR
      cases e with
      | normal => exact hL st a w h hR
      | _ => exact hΦ _ _ _ _ h hR)
    refine ⟨fun st a w h hR => wp_loopAt (hL st a w h hR), fun p z h => ?_⟩
    match p, h with
    | [], h => exact fun a w hR => loopAt_round (x1 _ a w h hR)
    | 0 :: p, h => exact x2 p z h
    | (_ + 1) :: _, h => exact h.elim
  | _ => intro ly Φ Q _ hΦ; exact ⟨fun st a w h => h.elim, fun p x h => h.elim⟩

end

/-! ### What is to be shown of a function -/
def retΦ (cx : Cx) (fn : Func) (al : Bool) (R : T) (y : R.den) (e : Exit) (st : St) : Prop := match e with
  | .ret => retOK cx al fn.results.toList R y st
  | .normal => retOK cx al fn.results.toList R y st
  | _ => False

def LyL : List (Pth × Lay) → Pth → Option Lay
  | [], _ => none
  | (q, l) :: r, p => match List.beq q p with | true => some l | false => LyL r p

def BodyL (cx : Cx) (ly : List (Pth × Lay)) (fn : Func) (code : Code) (c : Con) : Prop := ∀ x, c.A.wf x → c.pre x → ∀ Λ : Pth → Lst → Prop, (∀ p l, hdAt cx (LyL ly) Λ code (retΦ cx fn c.al c.R (c.F x)) p l → Λ p l) →
  Wl cx (LyL ly) Λ code (retΦ cx fn c.al c.R (c.F x)) (mkSt (argE c.A x 0, []))

theorem conOK_ofL {P : Program} {cx : Cx} {ly : List (Pth × Lay)} (hk : Cok P cx) (hmix : P.follows .mixedOrders = true) {f : FuncId} {fn : Func} {code : Code} {c : Con} (hf : P.funcs[f]? = some fn) (hb : fn.body = some code) (hn : fn.ntmps = cx.n)
    (hA : (isTup c.A && Nat.ble (arity c.A) cx.n) = true) (hok : okC cx.n code = true) (h : BodyL cx ly fn code c) : ConOK P f c := by
  intro w S x vs hv hpre
  rw [Bool.and_eq_true] at hA
  have hle := Nat.le_of_ble_eq_true hA.2
  let B : Bs := ⟨w.heap.size, S⟩
  let G : Nat → Gh := fun _ => ⟨undef, none⟩
  obtain ⟨i1, i2, i3⟩ := argE_ok (S' := dS B G (mkLoc []) false) (fun b hb => ⟨⟨fun e => (by cases e), .inr hb⟩, fun k g l hk => by simp [mkLoc, lk] at hk⟩) c.A x vs 0 hA.1 hv
  have hR : Rel P B w cx.n (mkSt (argE c.A x 0, [])) { tmps := vs.toArray ++ Array.replicate (fn.ntmps - vs.toArray.size) undef, defers := [] } w := by
    refine ⟨⟨G, ⟨Below.refl _ _, Nat.le_refl _, fun k g l hk => by simp [mkSt, mkLoc, lk] at hk, fun k k' g g' l l' b o o' hk => by simp [mkSt, mkLoc, lk] at hk⟩, fun t => ?_⟩, by simp; omega, rfl⟩
    show ERep P B G (mkLoc []) w (match lk (argE c.A x 0) t with | some v => v | none => .any) _
    split
    · rename_i V e
      obtain ⟨_, v, f', a, y, cs, j1, rfl, rfl, j4, rfl⟩ := i3 t V e
      refine ⟨cs, ?_, j4⟩
      have hlt : t < vs.length := (List.getElem?_eq_some_iff.1 j1).1
      have j1 : vs[t]? = some (mkV a cs) := j1
      have e1 : (vs.toArray ++ Array.replicate (fn.ntmps - vs.toArray.size) undef)[t]? = some (mkV a cs) := by
        rw [Array.getElem?_append_left (by simpa using hlt)]
        simpa using j1
      simp only [Array.getD_eq_getD_getElem?, e1, Option.getD_some]
    · trivial
  obtain ⟨s1, s2⟩ := sound (B := B) (w0 := w) hk hmix code (LyL ly) (retΦ cx fn c.al c.R (c.F x)) (relPost P B w cx.n (retΦ cx fn c.al c.R (c.F x))) hok fun e st a w h hR => ⟨st, h, hR⟩
  refine calls_of_wp hf hb (wp_mono (s1 _ _ _ (h x i2 hpre _ s2) hR) ?_)
  rintro e a w' ⟨st, hst, hR⟩
  have fin : retOK cx c.al fn.results.toList c.R (c.F x) st → bodyPost P fn (fun e w' => ∃ rs bs, e = .returned (mkRes rs) ∧ (reps P c.R).v w' (fun b => (w.heap.size ≤ b ∨ (c.al = true ∧ S b)) ∧ b ∉ bs) (c.F x) rs bs ∧ bs.Nodup ∧ (∀ b ∈ bs, w.heap.size ≤ b) ∧ Below w.heap.size w w') .ret a w' := by
    intro h
    unfold retOK at h
    split at h
    · rename_i vs' e
      obtain ⟨G', hm, he⟩ := hR.ex
      obtain ⟨vals, h1, h2⟩ := retVs_run hk hm he _ _ e
      obtain ⟨bs, h3, h4, h5⟩ := retChk_ok hk hm h2 h
      exact ⟨hR.nd, _, results_run h1, vals, bs, rfl, h3, h4, h5, hm.low⟩
    · exact h.elim
  cases e with
  | ret => exact fin hst
  | normal => exact fin hst
  | _ => exact hst.elim

theorem lawX {P : Program} {Γ : List (Nat × Con)} {Θ : List (Nat × T)} {n : Nat} {f : FuncId} {fn : Func} {c : Con} (ly : List (Pth × Lay)) (h1 : ConsOK P Γ) (h2 : gaB P Γ = true) (h3 : thB P Θ = true) (X : Xtr) (hX : XOK P X) (hmix : P.follows .mixedOrders = true) (hf : P.funcs[f]? = some fn) (hb : fnB fn c.A n = true)
    (h : BodyL ⟨Γ, Θ, n, X⟩ ly fn (codeOf fn) c) : ConOK P f c := by
  simp only [fnB, Bool.and_eq_true] at hb
  obtain ⟨⟨⟨⟨b1, b2⟩, b3⟩, b4⟩, b5⟩ := hb
  refine conOK_ofL (cok_ofX h1 h2 h3 hX) hmix hf (code := codeOf fn) ?_ (Nat.eq_of_beq_eq_true b2) (by rw [b3, b4]; rfl) b5 h
  unfold codeOf
  cases h : fn.body with
  | none => rw [h] at b1; cases b1
  | some c => rfl

theorem xok0 {P : Program} (a b : List Nat) : XOK P ⟨a, b, [], []⟩ := ⟨fun _ h => (by cases h), fun _ h => (by cases h)⟩

theorem lawL {P : Program} {Γ : List (Nat × Con)} {Θ : List (Nat × T)} {n : Nat} {f : FuncId} {fn : Func} {c : Con} (ly : List (Pth × Lay)) (h1 : ConsOK P Γ) (h2 : gaB P Γ = true) (h3 : thB P Θ = true) (hmix : P.follows .mixedOrders = true) (hf : P.funcs[f]? = some fn) (hb : fnB fn c.A n = true)
    (h : BodyL ⟨Γ, Θ, n, noX⟩ ly fn (codeOf fn) c) : ConOK P f c := lawX ly h1 h2 h3 noX noX_ok hmix hf hb h

end Go.Tk
