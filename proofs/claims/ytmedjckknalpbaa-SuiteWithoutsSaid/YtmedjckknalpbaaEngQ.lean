/- The engine, part Q: what is asked of a program, as Bools. No conditions. -/
import Derived.Test.YtmedjckknalpbaaEngP
set_option linter.unusedSimpArgs false
set_option linter.unusedVariables false
namespace Go.Tk
open Go Go.RowKit

def vB1 : Value → Value → Bool
  | .int .i64 a, .int .i64 b => decide (a = b)
  | .bool a, .bool b => a == b
  | .slice none 0 0, .slice none 0 0 => true
  | .nilFunc, .nilFunc => true
  | _, _ => false

def vBl : List Value → List Value → Bool
  | [], [] => true
  | a :: l, b :: k => vB1 a b && vBl l k
  | _, _ => false

def vB : Value → Value → Bool
  | .agg a, .agg b => vBl a.toList b.toList
  | a, b => vB1 a b

theorem vB1_eq {a b : Value} (h : vB1 a b = true) : a = b := by
  unfold vB1 at h
  split at h
  · simp at h; rw [h]
  · simp at h; rw [h]
  · rfl
  · rfl
  · cases h

theorem vBl_eq : ∀ {l k : List Value}, vBl l k = true → l = k
  | [], [], _ => rfl
  | a :: l, b :: k, h => by
    simp only [vBl, Bool.and_eq_true] at h
    rw [vB1_eq h.1, vBl_eq h.2]
  | [], _ :: _, h => by simp [vBl] at h
  | _ :: _, [], h => by simp [vBl] at h

theorem vB_eq {a b : Value} (h : vB a b = true) : a = b := by
  unfold vB at h
  split at h
  · rename_i a b
    exact congrArg Value.agg (Array.toList_inj.1 (vBl_eq h))
  · exact vB1_eq h

def infoB (P : Program) (t : T) (i : TypeId) : Bool := match P.info? i with
  | some f => Nat.beq f.size t.csize && Nat.ble f.bytes 16384 && (!t.hasZero || (match f.zero with | some z => vB z (mkV t (zeroCs t)) | none => false))
  | none => false

theorem infoB_ok {P : Program} {t : T} {i : TypeId} (h : infoB P t i = true) : infoOK P t i := by
  unfold infoB at h
  split at h
  · rename_i f e
    simp only [Bool.and_eq_true, Bool.or_eq_true] at h
    refine ⟨f, e, Nat.eq_of_beq_eq_true h.1.1, Nat.le_of_ble_eq_true h.1.2, fun hz => ?_⟩
    have h2 := h.2.resolve_left (by rw [hz]; simp)
    split at h2
    · rename_i z hz; exact ⟨z, hz, vB_eq h2⟩
    · cases h2
  · cases h

def eqB (P : Program) (t : T) (i : TypeId) : Bool := !(t.hasEq && t.agg) || (!P.stoodInHeld i && !P.eqGuardType P.depth i)

theorem eqB_ok {P : Program} {t : T} {i : TypeId} (h : eqB P t i = true) : eqOK P t i := by
  intro h1 h2
  unfold eqB at h
  rw [h1, h2] at h
  simpa using h

structure TB where
  ty : TypeId → Bool
  fl : List Field → Nat → Bool

def stB (p : List Field → Bool) : Option TypeDesc → Bool
  | some (.struct fs) => p fs.toList
  | _ => false

def consB (n : Nat) (p : TypeId → Bool) (q : List Field → Nat → Bool) (l : List Field) (o : Nat) : Bool := match l with
  | f :: l => Nat.beq f.offset o && !(Nat.beq n 0) && !(f.name == "_") && p f.type && q l (o + n)
  | _ => false

theorem stB_ok {p : List Field → Bool} {d : Option TypeDesc} (h : stB p d = true) : ∃ fs, d = some (.struct fs) ∧ p fs.toList = true := by
  unfold stB at h
  split at h
  · exact ⟨_, rfl, h⟩
  · cases h

theorem bne_false {n : Nat} (h : (!(Nat.beq n 0)) = true) : n ≠ 0 := by
  intro e; subst e; simp at h

theorem name_ne {s t : String} (h : (!(s == t)) = true) : s ≠ t := by
  intro e; subst e; simp at h

theorem consB_ok {n : Nat} {p : TypeId → Bool} {q : List Field → Nat → Bool} {l : List Field} {o : Nat} (h : consB n p q l o = true) : ∃ f l', l = f :: l' ∧ f.offset = o ∧ n ≠ 0 ∧ f.name ≠ "_" ∧ p f.type = true ∧ q l' (o + n) = true := by
  unfold consB at h
  split at h
  · rename_i f l'
    simp only [Bool.and_eq_true] at h
    exact ⟨f, l', rfl, Nat.eq_of_beq_eq_true h.1.1.1.1, bne_false h.1.1.1.2, name_ne h.1.1.2, h.1.2, h.2⟩
  · cases h

def tyB (P : Program) : T → TB
  | .int => ⟨fun i => (match P.underlying i with | some (.int .i64) => true | _ => false) && infoB P .int i, fun _ _ => false⟩
  | .bool => ⟨fun i => (match P.underlying i with | some .bool => true | _ => false) && infoB P .bool i, fun _ _ => false⟩
  | .nil => ⟨fun i => (match P.underlying i with | some (.struct fs) => (match fs.toList with | [] => true | _ => false) | _ => false) && infoB P .nil i && eqB P .nil i, fun l _ => (match l with | [] => true | _ => false)⟩
  | .cons a b => ⟨fun i => stB (fun l => consB a.csize (tyB P a).ty (tyB P b).fl l 0) (P.underlying i) && infoB P (.cons a b) i && eqB P (.cons a b) i, fun l o => consB a.csize (tyB P a).ty (tyB P b).fl l o⟩
  | .sl a => ⟨fun i => (match P.underlying i with | some (.slice e) => (tyB P a).ty e | _ => false) && infoB P (.sl a) i, fun _ _ => false⟩
  | .osl _ => ⟨fun _ => false, fun _ _ => false⟩
  | .nsl _ => ⟨fun _ => false, fun _ _ => false⟩
  | .seq _ _ => ⟨fun _ => false, fun _ _ => false⟩
  | .ref _ => ⟨fun _ => false, fun _ _ => false⟩
  | .arr n a => ⟨fun i => (match P.underlying i with | some (.array m e) => Nat.beq m n && (tyB P a).ty e | _ => false) && infoB P (.arr n a) i, fun _ _ => false⟩
  | .fn a r => ⟨fun i => (match P.underlying i with | some (.func _ _ _) => true | _ => false) && infoB P (.fn a r) i, fun _ _ => false⟩

theorem tyB_ok (P : Program) : ∀ (t : T), (∀ i, (tyB P t).ty i = true → (tys P t).ty i) ∧ ∀ l o, (tyB P t).fl l o = true → (tys P t).fl l o
  | .int => ⟨fun i h => (by
      simp only [tyB, Bool.and_eq_true] at h
      refine ⟨?_, infoB_ok h.2⟩
      have := h.1; split at this
      · assumption
      · (cases this)), fun l o h => by simp [tyB] at h⟩
  | .bool => ⟨fun i h => (by
      simp only [tyB, Bool.and_eq_true] at h
      refine ⟨?_, infoB_ok h.2⟩
      have := h.1; split at this
      · assumption
      · (cases this)), fun l o h => by simp [tyB] at h⟩
  | .nil => ⟨fun i h => (by
      simp only [tyB, Bool.and_eq_true] at h
      refine ⟨?_, infoB_ok h.1.2, eqB_ok h.2⟩
      have := h.1.1; split at this
      · rename_i fs e
        refine ⟨fs, e, ?_⟩
        split at this
        · assumption
        · cases this
      · (cases this)), fun l o h => by
      simp only [tyB] at h
      split at h
      · rfl
      · cases h⟩
  | .cons a b => ⟨fun i h => (by
      simp only [tyB, Bool.and_eq_true] at h
      obtain ⟨fs, e, h1⟩ := stB_ok h.1.1
      obtain ⟨f, l, e2, h2, h3, h4, h5, h6⟩ := consB_ok h1
      rw [Nat.zero_add] at h6
      exact ⟨⟨fs, e, f, l, e2, h2, h3, h4, (tyB_ok P a).1 _ h5, (tyB_ok P b).2 _ _ h6⟩, infoB_ok h.1.2, eqB_ok h.2⟩), fun l o h => by
      simp only [tyB] at h
      obtain ⟨f, l, e2, h2, h3, h4, h5, h6⟩ := consB_ok h
      exact ⟨f, l, e2, h2, h3, h4, (tyB_ok P a).1 _ h5, (tyB_ok P b).2 _ _ h6⟩⟩
  | .sl a => ⟨fun i h => (by
      simp only [tyB, Bool.and_eq_true] at h
      refine ⟨?_, infoB_ok h.2⟩
      have := h.1; split at this
      · rename_i e he; exact ⟨e, he, (tyB_ok P a).1 _ this⟩
      · (cases this)), fun l o h => by simp [tyB] at h⟩
  | .osl _ => ⟨fun i h => by simp [tyB] at h, fun l o h => by simp [tyB] at h⟩
  | .nsl _ => ⟨fun i h => by simp [tyB] at h, fun l o h => by simp [tyB] at h⟩
  | .seq _ _ => ⟨fun i h => by simp [tyB] at h, fun l o h => by simp [tyB] at h⟩
  | .ref _ => ⟨fun i h => by simp [tyB] at h, fun l o h => by simp [tyB] at h⟩
  | .arr n a => ⟨fun i h => (by
      simp only [tyB, Bool.and_eq_true] at h
      refine ⟨?_, infoB_ok h.2⟩
      have := h.1; split at this
      · rename_i m e he
        rw [Bool.and_eq_true] at this
        obtain rfl := Nat.eq_of_beq_eq_true this.1
        exact ⟨e, he, (tyB_ok P a).1 _ this.2⟩
      · (cases this)), fun l o h => by simp [tyB] at h⟩
  | .fn a r => ⟨fun i h => (by
      simp only [tyB, Bool.and_eq_true] at h
      refine ⟨?_, infoB_ok h.2⟩
      have := h.1; split at this
      · rename_i ps rs v he; exact ⟨ps, rs, v, he⟩
      · (cases this)), fun l o h => by simp [tyB] at h⟩

def funB (P : Program) (g : FuncId) : Bool := match P.funcs[g]? with
  | some fn => !(fn.name == "runtime.NumGoroutine") && !fn.body.isNone
  | none => false

theorem funB_ok {P : Program} {g : FuncId} (h : funB P g = true) : FunOK P g := by
  unfold funB at h
  split at h
  · rename_i fn e
    rw [Bool.and_eq_true] at h
    exact ⟨fn, e, by simpa using h.1, by simpa using h.2⟩
  · cases h

def ConsOK (P : Program) : List (Nat × Con) → Prop
  | [] => True
  | p :: l => ConOK P p.1 p.2 ∧ ConsOK P l

theorem consOK_lk {P : Program} : ∀ {Γ : List (Nat × Con)}, ConsOK P Γ → ∀ f c, lk Γ f = some c → ConOK P f c
  | [], _, f, c, h => by simp [lk] at h
  | (k, d) :: l, ⟨h1, h2⟩, f, c, h => by
    simp only [lk] at h
    split at h
    · rename_i e
      cases h
      obtain rfl := Nat.eq_of_beq_eq_true e
      exact h1
    · exact consOK_lk h2 f c h

theorem lk_mem {α : Type _} : ∀ {l : List (Nat × α)} {k : Nat} {a : α}, lk l k = some a → (k, a) ∈ l
  | [], k, a, h => by simp [lk] at h
  | (n, b) :: l, k, a, h => by
    simp only [lk] at h
    split at h
    · rename_i e
      cases h
      obtain rfl := Nat.eq_of_beq_eq_true e
      simp
    · exact List.mem_cons_of_mem _ (lk_mem h)

def allB {α : Type _} (p : α → Bool) : List α → Bool
  | [] => true
  | a :: l => p a && allB p l

theorem allB_mem {α : Type _} {p : α → Bool} : ∀ {l : List α}, allB p l = true → ∀ a ∈ l, p a = true
  | b :: l, h, a, ha => by
    simp only [allB, Bool.and_eq_true] at h
    rcases List.mem_cons.1 ha with rfl | ha
    · exact h.1
    · exact allB_mem h.2 a ha

def thB (P : Program) (Θ : List (Nat × T)) : Bool := allB (fun p => (tyB P p.2).ty p.1) Θ
def gaB (P : Program) (Γ : List (Nat × Con)) : Bool := allB (fun p => funB P p.1) Γ

theorem noX_ok {P : Program} : XOK P noX := ⟨fun _ h => (by cases h), fun _ h => (by cases h), fun _ _ h => (by cases h), fun _ h => (by cases h), fun _ _ h => (by cases h), fun _ h => (by cases h), fun _ _ h => (by cases h)⟩
def PansOK (P : Program) : List (Nat × PanC) → Prop
  | [] => True
  | p :: l => (FunOK P p.1 ∧ PanF P p.1 p.2) ∧ PansOK P l
theorem pansOK_lk {P : Program} : ∀ {l : List (Nat × PanC)}, PansOK P l → ∀ f c, lk l f = some c → FunOK P f ∧ PanF P f c
  | [], _, f, c, h => by simp [lk] at h
  | (k, d) :: l, ⟨h1, h2⟩, f, c, h => by
    simp only [lk] at h
    split at h
    · rename_i e
      cases h
      obtain rfl := Nat.eq_of_beq_eq_true e
      exact h1
    · exact pansOK_lk h2 f c h
def NilsOK (P : Program) : List (Nat × Con) → Prop
  | [] => True
  | p :: l => (FunOK P p.1 ∧ NilF P p.1 p.2) ∧ NilsOK P l
theorem nilsOK_lk {P : Program} : ∀ {l : List (Nat × Con)}, NilsOK P l → ∀ f c, lk l f = some c → FunOK P f ∧ NilF P f c
  | [], _, f, c, h => by simp [lk] at h
  | (k, d) :: l, ⟨h1, h2⟩, f, c, h => by
    simp only [lk] at h
    split at h
    · rename_i e
      cases h
      obtain rfl := Nat.eq_of_beq_eq_true e
      exact h1
    · exact nilsOK_lk h2 f c h
def ifcB (P : Program) (i : Nat) : Bool := match P.underlying i with
  | some (.interface _) => false
  | some _ => true
  | none => false
theorem ifcB_ok {P : Program} {i : Nat} (h : ifcB P i = true) : IfcOK P i := by
  unfold ifcB at h
  split at h
  · cases h
  · rename_i d hno e
    exact ⟨d, e, fun a h => hno a h⟩
  · cases h
def InsOK (P : Program) : List (Nat × InC) → Prop
  | [] => True
  | p :: l => (FunOK P p.1 ∧ InF P p.1 p.2) ∧ InsOK P l
theorem insOK_lk {P : Program} : ∀ {l : List (Nat × InC)}, InsOK P l → ∀ f c, lk l f = some c → FunOK P f ∧ InF P f c
  | [], _, f, c, h => by simp [lk] at h
  | (k, d) :: l, ⟨h1, h2⟩, f, c, h => by
    simp only [lk] at h
    split at h
    · rename_i e
      cases h
      obtain rfl := Nat.eq_of_beq_eq_true e
      exact h1
    · exact insOK_lk h2 f c h
def arrB (P : Program) (i : Nat) : Bool := match P.underlying i with
  | some (.array 2 e) => (tyB P .int).ty e && !(P.eqGuardType P.depth i)
  | _ => false
theorem arrB_ok {P : Program} {i : Nat} (h : arrB P i = true) : ArrOK P i := by
  unfold arrB at h
  split at h
  · rename_i e he
    rw [Bool.and_eq_true] at h
    exact ⟨e, he, (tyB_ok P .int).1 e h.1, by simpa using h.2⟩
  · cases h
theorem inN_mem0 : ∀ {l : List Nat} {n : Nat}, inN l n = true → n ∈ l
  | k :: l, n, h => by
    unfold inN at h
    split at h
    · rename_i e
      rw [Nat.eq_of_beq_eq_true e]; exact List.mem_cons_self
    · exact List.mem_cons_of_mem _ (inN_mem0 h)
theorem arrs_ok {P : Program} {l : List Nat} (h : allB (arrB P) l = true) : ∀ i, inN l i = true → ArrOK P i := fun i hi => arrB_ok (allB_mem h i (inN_mem0 hi))
theorem cok_ofX {P : Program} {Γ : List (Nat × Con)} {Θ : List (Nat × T)} {n : Nat} {X : Xtr} (h1 : ConsOK P Γ) (h2 : gaB P Γ = true) (h3 : thB P Θ = true) (hX : XOK P X) : Cok P ⟨Γ, Θ, n, X⟩ :=
  ⟨fun f c h => funB_ok (allB_mem h2 _ (lk_mem h)), fun f c h => consOK_lk h1 f c h, fun i t h => (tyB_ok P t).1 i (allB_mem h3 _ (lk_mem h)), hX⟩
theorem cok_of {P : Program} {Γ : List (Nat × Con)} {Θ : List (Nat × T)} {n : Nat} (h1 : ConsOK P Γ) (h2 : gaB P Γ = true) (h3 : thB P Θ = true) : Cok P ⟨Γ, Θ, n, noX⟩ := cok_ofX h1 h2 h3 noX_ok

def codeOf (fn : Func) : Code := match fn.body with
  | some c => c
  | none => .skip

/-- A function's Bools, in one. -/
def fnB (fn : Func) (A : T) (n : Nat) : Bool := fn.body.isSome && Nat.beq fn.ntmps n && isTup A && Nat.ble (arity A) n && okC n (codeOf fn)

theorem eqB_iff : ∀ {t : T} {x y : t.den}, t.hasEq = true → (t.eqB x y = true ↔ x = y)
  | .int, x, y, _ => by simp [T.eqB]
  | .bool, x, y, _ => by simp [T.eqB]
  | .nil, x, y, _ => by simp [T.eqB]
  | .cons a b, x, y, h => by
    simp only [T.hasEq, Bool.and_eq_true] at h
    simp only [T.eqB, Bool.and_eq_true, eqB_iff h.1, eqB_iff h.2]
    exact ⟨fun h => Prod.ext h.1 h.2, fun h => ⟨congrArg Prod.fst h, congrArg Prod.snd h⟩⟩
  | .sl _, _, _, h => by simp [T.hasEq] at h
  | .osl _, _, _, h => by simp [T.hasEq] at h
  | .ref _, _, _, h => by simp [T.hasEq] at h
  | .arr _ _, _, _, h => by simp [T.hasEq] at h
  | .fn _ _, _, _, h => by simp [T.hasEq] at h
  | .nsl _, _, _, h => by simp [T.hasEq] at h
  | .seq _ _, _, _, h => by simp [T.hasEq] at h

theorem eqB_neg {t : T} {x y : t.den} (h : t.hasEq = true) : t.eqB x y = false ↔ ¬ x = y := by
  rw [← eqB_iff h]; simp

theorem getElem?_of_getD {α : Type} {l : List α} {i : Nat} {d : α} (h : i < l.length) : l[i]? = some (l.getD i d) := by
  simp [List.getD_eq_getElem?_getD, List.getElem?_eq_getElem h]

theorem take_snoc {α : Type} {l : List α} {i : Nat} (d : α) (h : i < l.length) : l.take (i + 1) = l.take i ++ [l.getD i d] := by
  rw [List.take_add_one, getElem?_of_getD (d := d) h]; rfl

end Go.Tk
