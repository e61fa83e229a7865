/- The engine, part N: regions. Whatever order the tape picks, one run through the operations in their order serves. No conditions. -/
import Derived.Test.YtmedjckknalpbaaEngM
set_option linter.unusedSimpArgs false
set_option linter.unusedVariables false
namespace Go.Tk
open Go Go.RowKit

def lget {α : Type _} : List α → Nat → Option α
  | [], _ => none
  | a :: _, 0 => some a
  | _ :: l, n + 1 => lget l n

theorem lget_eq {α : Type _} : ∀ (l : List α) (n : Nat), lget l n = l[n]?
  | [], _ => by simp [lget]
  | a :: l, 0 => by simp [lget]
  | a :: l, n + 1 => by simp [lget, lget_eq l n]

/-- Sets of small numbers, as bits. -/
def tb (T n : Nat) : Bool := Nat.beq (Nat.land (Nat.shiftRight T n) 1) 1
def bit (n : Nat) : Nat := Nat.shiftLeft 1 n

theorem tb_eq (T n : Nat) : tb T n = Nat.testBit T n := by
  unfold tb Nat.testBit
  show Nat.beq ((T >>> n) &&& 1) 1 = (1 &&& (T >>> n) != 0)
  rw [Nat.and_comm]
  have : 1 &&& (T >>> n) = 0 ∨ 1 &&& (T >>> n) = 1 := by
    rw [Nat.one_and_eq_mod_two]; omega
  rcases this with h | h <;> rw [h] <;> rfl

theorem tb_lor (a b n : Nat) : tb (Nat.lor a b) n = (tb a n || tb b n) := by
  rw [tb_eq, tb_eq, tb_eq]
  exact Nat.testBit_or a b n

theorem tb_bit (k n : Nat) : tb (bit k) n = decide (k = n) := by
  rw [tb_eq]
  show Nat.testBit (1 <<< k) n = _
  rw [Nat.one_shiftLeft, Nat.testBit_two_pow]

theorem tb_zero (n : Nat) : tb 0 n = false := by rw [tb_eq]; simp

/-- Sets of local numbers, as lists. -/
def mb : List Nat → Nat → Bool
  | [], _ => false
  | k :: l, n => match Nat.beq k n with | true => true | false => mb l n

def V.ids : V → List Nat → List Nat
  | .ptr k _ _, l => k :: l
  | .own k _, l => k :: l
  | .sub k _ _ _, l => k :: l
  | .inn k _ _ _, l => k :: l
  | .ipt k _ _ _ _, l => k :: l
  | _, l => l

def idsO (ev : Operand → V) : List Operand → List Nat
  | [] => []
  | x :: l => (ev x).ids (idsO ev l)

/-- The locals that an operation looks at through its operands: a move looks at none. -/
def lookI (ev : Operand → V) : Op → List Nat
  | .move _ => []
  | op => idsO ev op.operands.toList

def touched (o : Oper) (ev : Operand → V) : List Nat := match o.dst with
  | some d => d :: lookI ev o.op
  | none => lookI ev o.op

def maskU : List (Nat × Nat × L) → List Nat
  | [] => []
  | (k, _, _) :: l => k :: maskU l

def insU (T : List Nat) : List (Nat × Nat × L) → Bool
  | [] => true
  | (k, _, _) :: l => match mb T k with | true => insU T l | false => false

theorem mb_cons (k : Nat) (l : List Nat) (n : Nat) : mb (k :: l) n = (decide (k = n) || mb l n) := by
  simp only [mb]
  split
  · rename_i h; simp [Nat.eq_of_beq_eq_true h]
  · rename_i h
    have : k ≠ n := fun e => by rw [e] at h; simp at h
    simp [this]

def rst (T : List Nat) (m : Mem) : Mem := fun n => match mb T n with
  | true => m n
  | false => none

def stepE (cx : Cx) (o : Oper) (st : St) : Option Eff := match (match o.dst with | some d => Nat.ble (d + 1) cx.n | none => true) with
  | true => match act cx o st.eval (rst (touched o st.eval) st.loc) with
    | some e => match insU (touched o st.eval) e.upd with
      | true => some e
      | false => none
    | none => none
  | false => none

def St.upd (st : St) (o : Oper) (e : Eff) : St := ⟨putEnv st.env o.dst e.val, putLoc st.loc e.upd⟩
def skipE : Eff := ⟨True, .c undef, []⟩
def St.lit (st : St) (d : Nat) (f b : Bool) : St := ⟨putEnv st.env (some d) (.d f .bool b), st.loc⟩

abbrev TU := List Nat × List Nat

def wfV : V → Prop
  | .d _ t x => t.wf x
  | _ => True

def wfU : List (Nat × Nat × L) → Prop
  | [(_, _, .sl _ t xs)] => (T.sl t).wf xs
  | _ => True

/-- What is known of a datum that an operation has yielded. -/
def wfE (o : Oper) (e : Eff) : Prop := match o.op with
  | .load _ _ => wfV e.val
  | .extract _ _ => wfV e.val
  | .call c => match c.callee with
    | .value _ => wfV e.val ∧ wfU e.upd
    | _ => True
  | _ => True

/-- What is to be shown ahead of an operation. -/
structure Pre (p : Prop) : Prop where
  h : p

def runO (cx : Cx) (o : Oper) (st : St) (K : Eff → TU → Prop) : Prop := match stepE cx o st with
  | some e => Pre e.pre ∧ (e.pre → wfE o e → K e (touched o st.eval, maskU e.upd))
  | none => False

/-- The run in the written order. -/
def runL (cx : Cx) (ops : List Oper) : List Oper → St → List TU → (St → List TU → Prop) → Prop
  | [], st, acc, Q => Q st acc
  | o :: l, st, acc, Q => match o.guard with
    | none => runO cx o st fun e tu => runL cx ops l (st.upd o e) (tu :: acc) Q
    | some (j, b) => match (lget ops j).bind (·.dst) with
      | none => False
      | some d => match st.env d with
        | .d f .bool x => (x = b → runO cx o (st.lit d f b) fun e tu => runL cx ops l ((st.lit d f b).upd o e) (tu :: acc) Q) ∧
            (x = (!b) → runL cx ops l ((st.lit d f (!b)).upd o skipE) (([], []) :: acc) Q)
        | .c (.tuple ⟨[]⟩) => runL cx ops l (st.upd o skipE) (([], []) :: acc) Q
        | _ => False

/-! ### The run, with the guards' Bools as they are -/
def wantA (ops : List Oper) (o : Oper) (st : St) : Option Bool := match o.guard with
  | none => some true
  | some (j, b) => match (lget ops j).bind (·.dst) with
    | none => none
    | some d => match st.env d with
      | .d _ .bool x => some (x == b)
      | .c (.tuple ⟨[]⟩) => some false
      | _ => none

def yop (cx : Cx) (ops : List Oper) (o : Oper) (e : Eff) (st : St) (tu : TU) : Prop :=
  (wantA ops o st = some true ∧ stepE cx o st = some e ∧ e.pre ∧ tu = (touched o st.eval, maskU e.upd)) ∨ (wantA ops o st = some false ∧ e = skipE ∧ tu = ([], []) ∧ ∀ d, o.dst = some d → d < cx.n)

def lexA (cx : Cx) (ops : List Oper) (τ : Nat → TU) (K : St → Prop) : List Oper → Nat → St → Prop
  | [], _, st => K st
  | o :: l, k, st => ∃ e, yop cx ops o e st (τ k) ∧ lexA cx ops τ K l (k + 1) (st.upd o e)

def accOf (τ : Nat → TU) : Nat → List TU
  | 0 => []
  | k + 1 => τ k :: accOf τ k

theorem St.lit_eq {st : St} {d : Nat} {f : Bool} {x b : Bool} (h : st.env d = .d f .bool x) (e : x = b) : st.lit d f b = st := by
  subst e
  unfold St.lit
  have : putEnv st.env (some d) (.d f .bool x) = st.env := by
    funext n
    simp only [putEnv]
    split
    · rename_i e; rw [← Nat.eq_of_beq_eq_true e, h]
    · rfl
  rw [this]

def dstsOK (n : Nat) (ops : List Oper) : Bool := ops.all fun o => match o.dst with | some d => Nat.ble (d + 1) n | none => true

theorem dstsOK_spec {n : Nat} {ops : List Oper} (h : dstsOK n ops = true) {o : Oper} (ho : o ∈ ops) {d : Nat} (hd : o.dst = some d) : d < n := by
  have := List.all_eq_true.1 h o ho
  simp only [hd] at this
  exact Nat.le_of_ble_eq_true this

theorem runL_lex {cx : Cx} {ops : List Oper} {Q : St → List TU → Prop} {R : St → Prop} {Pd : Oper → Prop} (hR : ∀ st o e tu, Pd o → R st → yop cx ops o e st tu → R (st.upd o e) ∧ wfE o e) : ∀ (l : List Oper) (st : St) (acc : List TU) (k : Nat) (τ0 : Nat → TU), (∀ o ∈ l, Pd o) → R st → dstsOK cx.n l = true → acc = accOf τ0 k → runL cx ops l st acc Q →
    ∃ τ, (∀ i, i < k → τ i = τ0 i) ∧ lexA cx ops τ (fun st => Q st (accOf τ (k + l.length))) l k st
  | [], st, acc, k, τ0, _, _, _, ha, h => ⟨τ0, fun _ _ => rfl, by subst ha; exact h⟩
  | o :: l, st, acc, k, τ0, hP, hr0, hd, ha, h => by
    have hd' : dstsOK cx.n l = true := by simp only [dstsOK, List.all_cons, Bool.and_eq_true] at hd ⊢; exact hd.2
    have go : ∀ (e : Eff) (tu : TU), yop cx ops o e st tu → runL cx ops l (st.upd o e) (tu :: acc) Q → ∃ τ, (∀ i, i < k → τ i = τ0 i) ∧ lexA cx ops τ (fun st => Q st (accOf τ (k + (o :: l).length))) (o :: l) k st := by
      intro e tu hy hr
      have hacc : ∀ (τ1 τ2 : Nat → TU) (k : Nat), (∀ i, i < k → τ1 i = τ2 i) → accOf τ1 k = accOf τ2 k := by
        intro τ1 τ2 k
        induction k with
        | zero => intro _; rfl
        | succ k ih => intro h; simp only [accOf]; rw [h k (by omega), ih fun i hi => h i (by omega)]
      obtain ⟨τ, h1, h2⟩ := runL_lex hR l (st.upd o e) (tu :: acc) (k + 1) (fun i => if i = k then tu else τ0 i) (fun o ho => hP o (List.mem_cons_of_mem _ ho)) (hR st o e tu (hP o (by simp)) hr0 hy).1 hd' (by
        simp only [accOf, if_true]
        rw [ha, hacc (fun i => if i = k then tu else τ0 i) τ0 k (fun i hi => by simp; omega)]) hr
      refine ⟨τ, fun i hi => by rw [h1 i (by omega)]; simp; omega, e, ?_, ?_⟩
      · rw [h1 k (by omega)]; simpa using hy
      · simpa [List.length_cons, Nat.add_assoc, Nat.add_comm 1] using h2
    unfold runL at h
    have exec : ∀ st', st' = st → wantA ops o st = some true → runO cx o st' (fun e tu => runL cx ops l (st'.upd o e) (tu :: acc) Q) → ∃ τ, (∀ i, i < k → τ i = τ0 i) ∧ lexA cx ops τ (fun st => Q st (accOf τ (k + (o :: l).length))) (o :: l) k st := by
      rintro _ rfl hw hr
      unfold runO at hr
      split at hr
      · rename_i e he
        have hy : yop cx ops o e _ (touched o _, maskU e.upd) := .inl ⟨hw, he, hr.1.h, rfl⟩
        exact go e _ hy (hr.2 hr.1.h (hR _ o e _ (hP o (by simp)) hr0 hy).2)
      · exact hr.elim
    cases hg : o.guard with
    | none =>
      rw [hg] at h
      exact exec st rfl (by unfold wantA; rw [hg]) h
    | some jb =>
      obtain ⟨j, b⟩ := jb
      rw [hg] at h
      simp only at h
      split at h
      · exact h.elim
      · rename_i d hd2
        split at h
        · rename_i f x hx
          have hw : wantA ops o st = some (x == b) := by unfold wantA; rw [hg]; simp only [hd2, hx]
          by_cases e : x = b
          · exact exec _ (St.lit_eq hx e) (by rw [hw, e]; simp) (h.1 e)
          · have e' : x = !b := by cases x <;> cases b <;> simp_all
            have hr := h.2 e'
            rw [St.lit_eq hx e'] at hr
            exact go skipE ([], []) (.inr ⟨by rw [hw]; simp [e], rfl, rfl, fun d hd3 => dstsOK_spec hd (by simp) hd3⟩) hr
        · rename_i hx
          have hw : wantA ops o st = some false := by unfold wantA; rw [hg]; simp only [hd2, hx]
          exact go skipE ([], []) (.inr ⟨hw, rfl, rfl, fun d hd3 => dstsOK_spec hd (by simp) hd3⟩) h
        · exact h.elim

/-! ### What is around an operation makes no difference to it -/
theorem idsO_congr {ev ev' : Operand → V} : ∀ (l : List Operand), (∀ x ∈ l, ev' x = ev x) → idsO ev' l = idsO ev l
  | [], _ => rfl
  | x :: l, h => by simp only [idsO]; rw [h x (by simp), idsO_congr l fun y hy => h y (by simp [hy])]

theorem touched_congr {o : Oper} {ev ev' : Operand → V} (h : ∀ x ∈ o.op.operands, ev' x = ev x) : touched o ev' = touched o ev := by
  have e : lookI ev' o.op = lookI ev o.op := by
    have e := idsO_congr o.op.operands.toList fun x hx => h x (by simpa using hx)
    unfold lookI
    split
    · rfl
    · exact e
  unfold touched
  rw [e]

theorem act_congr {cx : Cx} {o : Oper} {ev ev' : Operand → V} {m : Mem} (h : ∀ x ∈ o.op.operands, ev' x = ev x) : act cx o ev' m = act cx o ev m := by
  obtain ⟨dst, op, type, pos, after, guard⟩ := o
  simp only at h
  have lst : ∀ (l : Array Operand), (∀ x ∈ l, ev' x = ev x) → l.toList.map ev' = l.toList.map ev := fun l h => List.map_congr_left fun x hx => h x (by simpa using hx)
  have opt : ∀ (o : Option Operand), (∀ x ∈ o.toArray, ev' x = ev x) → o.map ev' = o.map ev := fun o h => by
    cases o with
    | none => rfl
    | some x => simp [h x (by simp)]
  have parts : ∀ (l : Array (Nat × Operand)), (∀ x ∈ (l.toList.map (·.2)).toArray, ev' x = ev x) → (l.toList.map fun p => (p.1, ev' p.2)) = (l.toList.map fun p => (p.1, ev p.2)) := fun l h => List.map_congr_left fun x hx => by
    rw [h x.2 (by simp; exact ⟨x.1, by simpa using hx⟩)]
  cases op <;> simp only [act, Op.operands] at h ⊢
  case call c =>
    obtain ⟨callee, args, argTypes⟩ := c
    simp only [Call.operands] at h
    have ha := lst args (fun x hx => h x (by simp [hx]))
    cases callee <;> simp only at h ⊢
    case value f => rw [h f (by simp), ha]
    case builtin b => rw [ha]
  case build t ps => rw [parts ps h]
  case buildSlice t n ps => rw [parts ps h]
  case makeFunc fn first caps => rw [lst first (fun x hx => h x (by simp [hx])), lst caps (fun x hx => h x (by simp [hx]))]
  case slice t x lo hi mx => rw [h x (by simp), opt lo (fun y hy => h y (by simp at hy ⊢; simp [hy])), opt hi (fun y hy => h y (by simp at hy ⊢; simp [hy])), opt mx (fun y hy => h y (by simp at hy ⊢; simp [hy]))]
  all_goals simp_all

theorem putEnv_ne {env : Nat → V} {dst : Option Nat} {v : V} {n : Nat} (h : dst ≠ some n) : putEnv env dst v n = env n := by
  cases dst with
  | none => rfl
  | some d =>
    simp only [putEnv]
    split
    · rename_i e; exact absurd (by rw [Nat.eq_of_beq_eq_true e]) h
    · rfl

theorem putEnv_same {env : Nat → V} {d : Nat} {v : V} : putEnv env (some d) v d = v := by simp [putEnv]

theorem putLoc_other {m : Mem} : ∀ {u : List (Nat × Nat × L)} {n : Nat}, mb (maskU u) n = false → putLoc m u n = m n
  | [], _, _ => rfl
  | (k, g, l) :: u, n, h => by
    simp only [maskU, mb_cons, Bool.or_eq_false_iff, decide_eq_false_iff_not] at h
    show putLoc (set1 m k g l) u n = m n
    rw [putLoc_other h.2, set1_other m g l h.1]

theorem putLoc_at {m m' : Mem} {n : Nat} (h : m n = m' n) : ∀ {u : List (Nat × Nat × L)}, putLoc m u n = putLoc m' u n := by
  intro u
  induction u generalizing m m' with
  | nil => exact h
  | cons x u ih =>
    obtain ⟨k, g, l⟩ := x
    refine ih ?_
    by_cases e : k = n
    · subst e; rw [set1_same, set1_same]
    · rw [set1_other m g l e, set1_other m' g l e]; exact h

def disj : List Nat → List Nat → Bool
  | [], _ => true
  | k :: l, b => match mb b k with | true => false | false => disj l b

theorem disj_iff : ∀ {a b : List Nat}, disj a b = true ↔ ∀ n, mb a n = false ∨ mb b n = false
  | [], b => by simp [disj, mb]
  | k :: l, b => by
    simp only [disj]
    constructor
    · intro h n
      split at h
      · cases h
      · rename_i hk
        rw [mb_cons]
        by_cases e : k = n
        · subst e; exact .inr hk
        · rcases disj_iff.1 h n with h' | h'
          · exact .inl (by simp [e, h'])
          · exact .inr h'
    · intro h
      have hk : mb b k = false := by
        rcases h k with h' | h'
        · rw [mb_cons] at h'; simp at h'
        · exact h'
      rw [hk]
      exact disj_iff.2 fun n => by
        rcases h n with h' | h'
        · rw [mb_cons, Bool.or_eq_false_iff] at h'; exact .inl h'.2
        · exact .inr h'

theorem disj_spec {a b : List Nat} (h : disj a b = true) (n : Nat) : mb a n = false ∨ mb b n = false := disj_iff.1 h n

theorem upd_mask : ∀ {u : List (Nat × Nat × L)} {T : List Nat}, insU T u = true → ∀ {n : Nat}, mb T n = false → mb (maskU u) n = false
  | [], _, _, n, _ => rfl
  | (k, g, l) :: u, T, h, n, hn => by
    simp only [insU] at h
    split at h
    · rename_i hk
      simp only [maskU, mb_cons, Bool.or_eq_false_iff, decide_eq_false_iff_not]
      exact ⟨fun e => (by rw [e, hn] at hk; cases hk), upd_mask h hn⟩
    · cases h

def noconf (a b : TU) : Bool := disj a.2 b.1 && disj b.2 a.1

theorem eval_upd {st : St} {o : Oper} {e : Eff} {x : Operand} (h : ∀ d, o.dst = some d → x ≠ .tmp d) : (st.upd o e).eval x = st.eval x := by
  cases x with
  | tmp t => exact putEnv_ne fun e' => h t e' rfl
  | _ => rfl

theorem wantA_upd {ops : List Oper} {st : St} {o oj : Oper} {e : Eff} (h : ∀ d, o.dst = some d → d ∉ oj.looksAt ops.toArray) : wantA ops oj (st.upd o e) = wantA ops oj st := by
  unfold wantA
  cases hg : oj.guard with
  | none => rfl
  | some jb =>
    obtain ⟨j, b⟩ := jb
    simp only
    cases hd : (lget ops j).bind (·.dst) with
    | none => rfl
    | some d =>
      have : (st.upd o e).env d = st.env d := putEnv_ne fun e' => h d e' (by
        unfold Oper.looksAt
        rw [hg]
        refine List.mem_append_right _ ?_
        rw [lget_eq] at hd
        simp [hd])
      simp only [this]

theorem stepE_upd {cx : Cx} {ops : List Oper} {st : St} {o oj : Oper} {e : Eff} (h : ∀ d, o.dst = some d → d ∉ oj.looksAt ops.toArray) (hl : disj (maskU e.upd) (touched oj st.eval) = true) : stepE cx oj (st.upd o e) = stepE cx oj st ∧ touched oj (st.upd o e).eval = touched oj st.eval := by
  have hx : ∀ x ∈ oj.op.operands, (st.upd o e).eval x = st.eval x := fun x hx => eval_upd fun d hd e' => h d hd (by
    subst e'
    exact List.mem_append_left _ (List.mem_filterMap.2 ⟨.tmp d, by simpa using hx, rfl⟩))
  have ht := touched_congr hx
  refine ⟨?_, ht⟩
  unfold stepE
  rw [ht, act_congr hx]
  have : rst (touched oj st.eval) (st.upd o e).loc = rst (touched oj st.eval) st.loc := by
    funext n
    unfold rst
    split
    · rename_i hn
      have := (disj_spec hl n).resolve_right (by rw [hn]; simp)
      exact putLoc_other this
    · rfl
  rw [this]

/-- Two operations that are apart may come in either order. -/
theorem upd_comm {st : St} {oi oj : Oper} {ei ej : Eff} (hd : ∀ d, oi.dst = some d → oj.dst ≠ some d) (hu : disj (maskU ei.upd) (maskU ej.upd) = true) : (st.upd oi ei).upd oj ej = (st.upd oj ej).upd oi ei := by
  have h1 : putEnv (putEnv st.env oi.dst ei.val) oj.dst ej.val = putEnv (putEnv st.env oj.dst ej.val) oi.dst ei.val := by
    funext n
    by_cases e1 : oi.dst = some n
    · have e2 := hd n e1
      rw [putEnv_ne e2, e1, putEnv_same, putEnv_same]
    · rw [putEnv_ne (dst := oi.dst) e1]
      by_cases e2 : oj.dst = some n
      · rw [e2, putEnv_same, putEnv_same]
      · rw [putEnv_ne e2, putEnv_ne e2, putEnv_ne e1]
  have h2 : putLoc (putLoc st.loc ei.upd) ej.upd = putLoc (putLoc st.loc ej.upd) ei.upd := by
    funext n
    rcases disj_spec hu n with e | e
    · rw [putLoc_other (u := ei.upd) e]
      exact putLoc_at (putLoc_other e)
    · rw [putLoc_other (u := ej.upd) e]
      exact (putLoc_at (putLoc_other e)).symm
  simp only [St.upd, h1, h2]

/-! ### Any order -/
def direct (ops : List Oper) (j i : Nat) : Prop := ∃ o, ops[j]? = some o ∧ ∃ e ∈ o.after, Region.binds .any e = true ∧ e.on = i

def closedL (ops : List Oper) (listed : Array Bool) : Prop := ∀ j i, listed.getD j false = true → direct ops j i → listed.getD i false = true

def deps (o : Oper) : List Nat := (o.after.toList.filter (Region.binds .any)).map (·.on)

def ancOf (acc : List Nat) : List Nat → Nat
  | [] => 0
  | k :: l => Nat.lor (Nat.lor (bit k) ((lget acc k).getD 0)) (ancOf acc l)

/-- For each operation: those that it waits for, directly or not. -/
def ancGo : List Oper → List Nat → List Nat
  | [], acc => acc
  | o :: l, acc => ancGo l (acc ++ [ancOf acc (deps o)])

def anc (ops : List Oper) (j : Nat) : Nat := (lget (ancGo ops []) j).getD 0

theorem ancGo_get : ∀ (l : List Oper) (acc : List Nat) (j : Nat), (ancGo l acc)[j]? = if j < acc.length then acc[j]? else
    match l[j - acc.length]? with
    | some o => some (ancOf ((ancGo l acc).take j) (deps o))
    | none => none
  | [], acc, j => by
    simp only [ancGo]
    split
    · rfl
    · simp; omega
  | o :: l, acc, j => by
    have ih := ancGo_get l (acc ++ [ancOf acc (deps o)]) j
    have pre : ∀ (l : List Oper) (acc : List Nat), (ancGo l acc).take acc.length = acc := by
      intro l
      induction l with
      | nil => intro acc; simp [ancGo]
      | cons o l ih =>
        intro acc
        have := ih (acc ++ [ancOf acc (deps o)])
        simp only [ancGo]
        rw [List.length_append, List.length_singleton] at this
        have h2 := congrArg (List.take acc.length) this
        rw [List.take_take, Nat.min_eq_left (by omega), List.take_left'] at h2
        · exact h2
        · rfl
    simp only [ancGo]
    rw [ih]
    simp only [List.length_append, List.length_singleton]
    by_cases h : j < acc.length
    · rw [if_pos (by omega), if_pos h, List.getElem?_append_left h]
    · rw [if_neg h]
      by_cases h2 : j = acc.length
      · subst h2
        rw [if_pos (by omega)]
        have := pre l (acc ++ [ancOf acc (deps o)])
        have h3 := congrArg (List.take acc.length) this
        rw [List.take_take, List.length_append, Nat.min_eq_left (by omega), List.take_left'] at h3
        · simp [h3]
        · rfl
      · rw [if_neg (by omega)]
        have e : j - acc.length = (j - (acc.length + 1)) + 1 := by omega
        rw [e, List.getElem?_cons_succ]

theorem ancOf_spec {acc : List Nat} {i : Nat} : ∀ (l : List Nat), tb (ancOf acc l) i = true ↔ ∃ k ∈ l, k = i ∨ ∃ a, acc[k]? = some a ∧ tb a i = true
  | [] => by simp [ancOf, tb_zero]
  | k :: l => by
    simp only [ancOf, tb_lor, Bool.or_eq_true, tb_bit, decide_eq_true_eq, ancOf_spec l, lget_eq, List.mem_cons, exists_eq_or_imp]
    cases acc[k]? with
    | none => simp [tb_zero]
    | some a => simp

theorem direct_deps {ops : List Oper} {j i : Nat} {o : Oper} (ho : ops[j]? = some o) : direct ops j i ↔ i ∈ deps o := by
  unfold direct deps
  simp only [List.mem_map, List.mem_filter]
  constructor
  · rintro ⟨o', h, e, he, hb, rfl⟩
    rw [ho] at h; cases h
    exact ⟨e, ⟨by simpa using he, hb⟩, rfl⟩
  · rintro ⟨e, ⟨he, hb⟩, rfl⟩
    exact ⟨o, ho, e, by simpa using he, hb, rfl⟩

theorem anc_some {ops : List Oper} {j i : Nat} (h : tb (anc ops j) i = true) : direct ops j i ∨ ∃ k, direct ops j k ∧ k < j ∧ tb (anc ops k) i = true := by
  unfold anc at h
  rw [lget_eq, ancGo_get ops [] j] at h
  simp only [List.length_nil, Nat.not_lt_zero, if_false, Nat.sub_zero] at h
  cases ho : ops[j]? with
  | none => rw [ho] at h; simp [tb_zero] at h
  | some o =>
    rw [ho] at h
    simp only [Option.getD_some] at h
    obtain ⟨k, hk, h⟩ := (ancOf_spec _).1 h
    have hd := (direct_deps ho).2 hk
    rcases h with rfl | ⟨a, ha, h⟩
    · exact .inl hd
    · rw [List.getElem?_take] at ha
      split at ha
      · rename_i hlt
        refine .inr ⟨k, hd, hlt, ?_⟩
        unfold anc
        rw [lget_eq, ha]; exact h
      · cases ha

theorem anc_direct {ops : List Oper} {j i : Nat} (h : direct ops j i) : tb (anc ops j) i = true := by
  obtain ⟨o, ho, _⟩ := id h
  unfold anc
  rw [lget_eq, ancGo_get ops [] j]
  simp only [List.length_nil, Nat.not_lt_zero, if_false, Nat.sub_zero, ho, Option.getD_some]
  exact (ancOf_spec _).2 ⟨i, (direct_deps ho).1 h, .inl rfl⟩

theorem anc_listed {ops : List Oper} {listed : Array Bool} (hc : closedL ops listed) {i : Nat} : ∀ (j : Nat), (∀ k, direct ops j k → listed.getD k false = true) → tb (anc ops j) i = true → listed.getD i false = true := by
  intro j
  induction j using Nat.strongRecOn with
  | _ j ih =>
    intro hd ha
    rcases anc_some ha with h | ⟨k, h1, h2, h3⟩
    · exact hd i h
    · exact ih k h2 (fun i' h' => hc k i' (hd k h1) h') h3

theorem unlisted {listed : Array Bool} {i : Nat} (h : listed.getD i true = false) (h' : listed.getD i false = true) : False := by
  rcases Nat.lt_or_ge i listed.size with h2 | h2
  · simp [h2] at h h'; rw [h] at h'; cases h'
  · simp [Array.getElem?_eq_none h2] at h

def anyA (cx : Cx) (ops : List Oper) (τ : Nat → TU) (K : St → Prop) : Nat → Array Bool → St → Prop
  | 0, listed, st => Region.ready .any ops.toArray listed = [] ∧ K st
  | fuel + 1, listed, st => (Region.ready .any ops.toArray listed = [] → K st) ∧ ∀ i ∈ Region.ready .any ops.toArray listed, ∃ o e, ops.toArray[i]? = some o ∧ yop cx ops o e st (τ i) ∧ anyA cx ops τ K fuel (listed.setIfInBounds i true) (st.upd o e)

theorem yop_mask {cx : Cx} {ops : List Oper} {o : Oper} {e : Eff} {st : St} {tu : TU} (h : yop cx ops o e st tu) : maskU e.upd = tu.2 ∧ ∀ T, disj tu.1 T = true → disj (maskU e.upd) T = true := by
  rcases h with ⟨_, h1, _, rfl⟩ | ⟨_, rfl, rfl, _⟩
  · refine ⟨rfl, fun T hT => disj_iff.2 fun n => ?_⟩
    rcases disj_spec hT n with h | h
    · refine .inl ?_
      unfold stepE at h1
      split at h1
      · split at h1
        · split at h1
          · rename_i hall
            cases h1
            exact upd_mask hall h
          · cases h1
        · cases h1
      · cases h1
    · exact .inr h
  · exact ⟨rfl, fun T _ => rfl⟩

theorem disj_comm (a b : List Nat) : disj a b = disj b a := by
  have h : ∀ a b, disj a b = true → disj b a = true := fun a b h => disj_iff.2 fun n => (disj_iff.1 h n).symm
  cases h1 : disj a b
  · cases h2 : disj b a
    · rfl
    · rw [h b a h2] at h1; cases h1
  · rw [h a b h1]

theorem yop_upd {cx : Cx} {ops : List Oper} {o oj : Oper} {e ej : Eff} {st : St} {tu : TU} (h : ∀ d, o.dst = some d → d ∉ oj.looksAt ops.toArray) (hl : disj (maskU e.upd) tu.1 = true) : yop cx ops oj ej (st.upd o e) tu ↔ yop cx ops oj ej st tu := by
  have hx : ∀ x ∈ oj.op.operands, (st.upd o e).eval x = st.eval x := fun x hx => eval_upd fun d hd e' => h d hd (by
    subst e'
    exact List.mem_append_left _ (List.mem_filterMap.2 ⟨.tmp d, by simpa using hx, rfl⟩))
  have ht := touched_congr hx
  unfold yop
  rw [wantA_upd h, ht]
  constructor
  · rintro (⟨a, b, c, rfl⟩ | h')
    · rw [(stepE_upd h hl).1] at b
      exact .inl ⟨a, b, c, rfl⟩
    · exact .inr h'
  · rintro (⟨a, b, c, rfl⟩ | h')
    · rw [← (stepE_upd h hl).1] at b
      exact .inl ⟨a, b, c, rfl⟩
    · exact .inr h'

theorem closedL_set {ops : List Oper} {listed : Array Bool} (hc : closedL ops listed) {j : Nat} (hj : j ∈ Region.ready .any ops.toArray listed) : closedL ops (listed.setIfInBounds j true) := by
  obtain ⟨h0, o, ho, hall⟩ := mem_ready.1 hj
  intro a b ha hab
  by_cases e : j = a
  · subst e
    obtain ⟨o', ho', e, he, hb, rfl⟩ := hab
    have : o' = o := by
      have h2 : ops[j]? = some o := by simpa using ho
      rw [h2] at ho'; cases ho'; rfl
    subst this
    exact getD_set_true (hall e he hb)
  · rw [getD_set_ne false e] at ha
    exact getD_set_true (hc a b ha hab)

theorem ready_anc {ops : List Oper} {listed : Array Bool} (hc : closedL ops listed) {i j : Nat} (hj : j ∈ Region.ready .any ops.toArray listed) (hi : listed.getD i true = false) : tb (anc ops j) i = false := by
  cases h : tb (anc ops j) i
  · rfl
  · refine (unlisted hi (anc_listed hc j (fun k hk => ?_) h)).elim
    obtain ⟨_, o, ho, hall⟩ := mem_ready.1 hj
    obtain ⟨o', ho', e, he, hb, rfl⟩ := hk
    have : o' = o := by
      have h2 : ops[j]? = some o := by simpa using ho
      rw [h2] at ho'; cases ho'; rfl
    subst this
    exact hall e he hb

theorem anyA_first {cx : Cx} {ops : List Oper} {τ : Nat → TU} {K : St → Prop} {i : Nat} {oi : Oper} {ei : Eff} (hi : ops.toArray[i]? = some oi) :
    ∀ (fuel : Nat) (listed : Array Bool) (st : St), closedL ops listed →
      (∀ j oj, ops.toArray[j]? = some oj → j ≠ i → listed.getD j true = false → tb (anc ops j) i = false → oi.apart ops.toArray oj = true ∧ noconf (τ i) (τ j) = true) →
      i ∈ Region.ready .any ops.toArray listed → yop cx ops oi ei st (τ i) →
      anyA cx ops τ K fuel (listed.setIfInBounds i true) (st.upd oi ei) → anyA cx ops τ K (fuel + 1) listed st := by
  intro fuel
  induction fuel with
  | zero =>
    intro listed st _ _ hr hy H
    refine ⟨fun h => (by rw [h] at hr; cases hr), fun j hj => ?_⟩
    by_cases hji : j = i
    · subst hji; exact ⟨oi, ei, hi, hy, H⟩
    · have := ready_mono hj hji
      rw [H.1] at this
      cases this
  | succ fuel ih =>
    intro listed st hc hfree hr hy H
    refine ⟨fun h => (by rw [h] at hr; cases hr), fun j hj => ?_⟩
    by_cases hji : j = i
    · subst hji; exact ⟨oi, ei, hi, hy, H⟩
    · obtain ⟨oj, ej, hoj, hyj, hrest⟩ := H.2 j (ready_mono hj hji)
      have hun := (mem_ready.1 hr).1
      obtain ⟨hap, hno⟩ := hfree j oj hoj hji (mem_ready.1 hj).1 (ready_anc hc hj hun)
      obtain ⟨h1, h2, h3⟩ := Oper.apart_spec hap
      unfold noconf at hno
      rw [Bool.and_eq_true] at hno
      obtain ⟨mi, mi2⟩ := yop_mask hy
      obtain ⟨mj, mj2⟩ := yop_mask hyj
      have hyj' := (yop_upd h1 (by rw [mi]; exact hno.1)).1 hyj
      have hyi' : yop cx ops oi ei (st.upd oj ej) (τ i) := (yop_upd h3 (by rw [mj]; exact hno.2)).2 hy
      have hcomm : (st.upd oi ei).upd oj ej = (st.upd oj ej).upd oi ei := upd_comm h2 (by
        rw [disj_comm]
        refine mj2 _ ?_
        rw [disj_comm, mi]; exact hno.1)
      refine ⟨oj, ej, hoj, hyj', ih (listed.setIfInBounds j true) (st.upd oj ej) (closedL_set hc hj) ?_ (ready_mono hr (Ne.symm hji)) hyi' ?_⟩
      · intro k ok hk hki hun' ha
        refine hfree k ok hk hki ?_ ha
        by_cases hjk : j = k
        · subst hjk; exact (mem_ready.1 hj).1
        · rw [getD_set_ne true hjk] at hun'; exact hun'
      · rw [Array.setIfInBounds_comm _ _ hji, ← hcomm]
        exact hrest

theorem anyA_lex {cx : Cx} {ops : List Oper} {τ : Nat → TU} {K : St → Prop} (hnc : ∀ i j, i < ops.length → j < ops.length → i ≠ j → tb (anc ops j) i = true ∨ tb (anc ops i) j = true ∨ noconf (τ i) (τ j) = true) :
    ∀ (l : List Oper) (k : Nat) (listed : Array Bool) (st : St), (∀ j, l[j]? = ops[k + j]?) → closedL ops listed → Region.lexFrom .any ops.toArray l.length k listed = true → lexA cx ops τ K l k st → anyA cx ops τ K l.length listed st
  | [], _, _, _, _, _, hB, h => ⟨by simpa [Region.lexFrom] using hB, h⟩
  | o :: l, k, listed, st, hl, hc, hB, h => by
    have h0 : ops[k]? = some o := by simpa using (hl 0).symm
    simp only [List.length_cons, Region.lexFrom, Bool.and_eq_true] at hB
    obtain ⟨⟨hr, hf⟩, hB'⟩ := hB
    have hr : k ∈ Region.ready .any ops.toArray listed := by simpa using hr
    obtain ⟨e, hy, hK⟩ := h
    have hk : k < ops.length := (List.getElem?_eq_some_iff.1 h0).1
    refine anyA_first (by simpa using h0) l.length listed st hc ?_ hr hy (anyA_lex hnc l (k + 1) _ _ (fun j => by have := hl (j + 1); simpa [Nat.add_assoc, Nat.add_comm 1 j] using this) (closedL_set hc hr) hB' hK)
    intro j oj hoj hne hun ha
    have hoj' : ops[j]? = some oj := by simpa using hoj
    have hj : j < ops.length := (List.getElem?_eq_some_iff.1 hoj').1
    refine ⟨Region.free_spec (by simpa using h0) hf j oj hoj hne hun (fun e he hb heq => ?_), ?_⟩
    · have := anc_direct (ops := ops) (j := j) (i := k) ⟨oj, hoj', e, he, hb, heq⟩
      rw [ha] at this; cases this
    · rcases hnc k j hk hj (Ne.symm hne) with h | h | h
      · rw [ha] at h; cases h
      · rw [ready_anc hc hr hun] at h; cases h
      · exact h

end Go.Tk
