/- The engine, part M: one operation. No conditions. -/
import Derived.Test.YtmedjckknalpbaaEngL
set_option linter.unusedSimpArgs false
set_option linter.unusedVariables false
namespace Go.Tk
open Go Go.RowKit

section
variable {P : Program} {B : Bs} {G : Nat → Gh} {m m' : Mem} {w w0 : World} {cx : Cx}

theorem upon_v {o : Oper} {a : Act} {next : Act → World → Prop} {Q : Exit → Act → World → Prop} {e : Eff} (s : Sem Value) (hn : ∀ v w', Post P B w0 G m w e v w' → next (a.put o.dst v) w')
    (h : ∃ v w', s.run P w = .ok v w' ∧ Post P B w0 G m w e v w') : o.upon P a next Q ((do pure (.value (← s)) : Sem Next).run P w) := by
  obtain ⟨v, w', h1, h2⟩ := h
  simp only [Sem.run_bind, h1, Result.andThen_ok, Sem.run_pure, Oper.upon_value]
  exact hn v w' h2

theorem fits_spec {n : Int} (h : fits n = true) : inI n := by
  unfold fits at h
  split at h
  · have := Nat.le_of_ble_eq_true h
    show inI ((_ : Nat) : Int)
    unfold inI; omega
  · have := Nat.le_of_ble_eq_true h
    unfold inI; omega

theorem constV_ok (v : Value) : ERep P B G m w (constV v) v := by
  unfold constV
  split
  · split
    · rename_i h; exact ⟨_, rfl, rfl, fits_spec h⟩
    · trivial
  · exact ⟨_, rfl, rfl⟩
  · exact rfl

theorem optMap {ev : Operand → V} {ρ : Operand → Value} (h : ∀ x, ERep P B G m w (ev x) (ρ x)) : ∀ (o : Option Operand), optRep P B G m w (o.map ev) (o.map ρ)
  | none => trivial
  | some x => h x

theorem partsMap {ev : Operand → V} {ρ : Operand → Value} (h : ∀ x, ERep P B G m w (ev x) (ρ x)) (l : List (Nat × Operand)) (j : Nat) (p : Nat × V) (q : Nat × Value) (hp : (l.map fun p => (p.1, ev p.2))[j]? = some p) (hq : (l.map fun p => (p.1, ρ p.2))[j]? = some q) : p.1 = q.1 ∧ ERep P B G m w p.2 q.2 := by
  simp only [List.getElem?_map] at hp hq
  cases e : l[j]? with
  | none => rw [e] at hp; cases hp
  | some x => rw [e] at hp hq; cases hp; cases hq; exact ⟨rfl, h _⟩

theorem two {l : List Operand} {ev : Operand → V} {x y : V} (h : l.map ev = [x, y]) : ∃ a b, l = [a, b] ∧ ev a = x ∧ ev b = y := by
  match l, h with
  | [a, b], h => simp at h; exact ⟨a, b, rfl, h⟩
theorem one {l : List Operand} {ev : Operand → V} {x : V} (h : l.map ev = [x]) : ∃ a, l = [a] ∧ ev a = x := by
  match l, h with
  | [a], h => simp at h; exact ⟨a, rfl, h⟩

theorem act_upon (hk : Cok P cx) (hm : MRel P B G m w w0) (hs : Sub m' m) {o : Oper} {ev : Operand → V} {a : Act} (hd : ∀ d, o.dst = some d → m' d = m d) {e : Eff} (h : act cx o ev m' = some e) (hpre : e.pre) (hev : ∀ x, ERep P B G m w (ev x) (a.eval x))
    {next : Act → World → Prop} {Q : Exit → Act → World → Prop} (hn : ∀ v w', Post P B w0 G m w e v w' → next (a.put o.dst v) w') : o.upon P a next Q ((execOp a.eval o).run P w) := by
  obtain ⟨dst, op, type, pos, after, guard⟩ := o
  simp only at hd
  cases op <;> simp only [act] at h <;> simp only [execOp]
  case move x => exact hn _ _ (aMove_ok hm hd h (hev x))
  case assign x => exact hn _ _ (aMove_ok hm hd h (hev x))
  case pick c x y =>
    obtain ⟨v, h1, h2⟩ := aPick_ok hm h hpre (hev c) (hev x) (hev y)
    simp only [Sem.run_bind, Sem.run_pure] at h1 ⊢
    generalize (asBool (a.eval c)).run P w = r at h1 ⊢
    cases r with
    | ok b w1 =>
      simp only [Result.andThen_ok] at h1 ⊢
      cases h1
      exact hn _ _ h2
    | halt x w1 => simp [Result.andThen] at h1
  case alloc i => exact upon_v _ hn (aAlloc_ok hk hm hd h)
  case box i x =>
    split at h
    · exact upon_v _ hn (aBoxN_ok hk hm hd h (hev x))
    · exact upon_v _ hn (aBox_ok hk hm hs hd h (hev x))
  case load t x => exact upon_v _ hn (aLoad_ok hk hm hs h (hev x).deref)
  case store t x y =>
    cases dst with
    | some d => cases h
    | none =>
      obtain ⟨w', h1, h2⟩ := aStore_ok hk hm hs h hpre (hev x) (hev y)
      simp only [Sem.run_bind, h1, Result.andThen_ok, Sem.run_pure, Oper.upon_skip]
      exact hn _ _ h2
  case fieldAddr s x i => exact upon_v _ hn (aFieldAddr_ok hk hm hs h (hev x).deref)
  case field s x i => exact upon_v _ hn (aField_ok hk hm h (hev x))
  case indexAddr t x i => exact upon_v _ hn (aIndexAddr_ok hk hm hs h hpre (hev x).deref (hev i))
  case index t x i => exact upon_v _ hn (aIndex_ok hk hm h hpre (hev x) (hev i))
  case build t ps =>
    refine upon_v _ hn ?_
    have := aBuild_ok hk hm hs h (vals := ps.toList.map fun p => (p.1, a.eval p.2)) (by simp) (partsMap hev ps.toList)
    rwa [show (ps.map fun (i, x) => (i, a.eval x)) = (ps.toList.map fun p => (p.1, a.eval p.2)).toArray by simp [← Array.toList_map]]
  case buildSlice t n ps =>
    refine upon_v _ hn ?_
    have := aBuildSlice_ok hk hm hs hd h (vals := ps.toList.map fun p => (p.1, a.eval p.2)) (by simp) (partsMap hev ps.toList)
    rwa [show (ps.map fun (i, x) => (i, a.eval x)) = (ps.toList.map fun p => (p.1, a.eval p.2)).toArray by simp [← Array.toList_map]]
  case makeSlice t l c => exact upon_v _ hn (aMakeSlice_ok hk hm hd h hpre (hev l) (hev c))
  case slice t x lo hi mx =>
    obtain ⟨v, h1, h2⟩ := aSlice_ok hk hm hs h hpre (hev x) (optMap hev lo) (optMap hev hi) (optMap hev mx)
    exact upon_v _ hn ⟨v, w, h1, h2⟩
  case extract x i => exact upon_v _ hn (aExtract_ok hm h (hev x))
  case binOp op t x y c =>
    refine upon_v _ hn ?_
    obtain ⟨v, h1, h2⟩ := aBin_ok hk hm h hpre (hev x) (hev y) x y
    exact ⟨v, w, h1, h2⟩
  case unOp op t x =>
    obtain ⟨v, h1, h2⟩ := aUn_ok hm h hpre (hev x)
    exact upon_v _ hn ⟨v, w, h1, h2⟩
  case convert s d x =>
    obtain ⟨v, h1, h2⟩ := aConvert_ok hk hm h (hev x)
    exact upon_v _ hn ⟨v, w, h1, h2⟩
  case nilCheck x =>
    obtain ⟨rfl, h1⟩ := aNilCheck_ok hs h (hev x)
    have hx := hev x
    rcases h1 with ⟨g, caps, e⟩ | ⟨a0, e⟩
    all_goals
      rw [e] at hx ⊢
      exact hn _ _ (Post.eff hm hx)
  case makeFunc fn first caps =>
    refine upon_v _ hn ?_
    obtain ⟨v, h1, h2⟩ := aMakeFunc_ok hk hm hs h (vf := first.toList.map a.eval) (vals := caps.toList.map a.eval) (by simp) (by simp) (fun j p q hp hq => (ERs.map hev caps.toList).get j p q hp hq) (fun j p q hp hq => (ERs.map hev first.toList).get j p q hp hq)
    refine ⟨v, w, ?_, h2⟩
    rw [show first.map a.eval = (first.toList.map a.eval).toArray by simp [← Array.toList_map], show caps.map a.eval = (caps.toList.map a.eval).toArray by simp [← Array.toList_map]]
    exact h1
  case call c =>
    obtain ⟨callee, args, argTypes⟩ := c
    have hargs : args.map a.eval = (args.toList.map a.eval).toArray := by simp [← Array.toList_map]
    cases callee <;> simp only at h
    case value f =>
      obtain ⟨g, argv, h1, h2⟩ := aCall_ok hk hm hs hd h hpre (hev f) (ERs.map hev args.toList)
      simp only [resolve]
      rw [hargs]
      rw [h1, Oper.upon_enter]
      refine h2.mono ?_
      rintro en w' ⟨v, rfl, hp⟩
      exact hn v w' hp
    case builtin b =>
      simp only [resolve, hargs]
      cases b
      case len =>
        split at h
        · rename_i x e
          obtain ⟨y, e2, rfl⟩ := one e
          obtain ⟨v, h1, h2⟩ := aLen_ok hk hm hs h (hev y) type
          simp only [Sem.run_bind, Sem.run_pure, Result.andThen_ok, invoke, builtin, e2]
          have h1' : (Builtin.len_ argTypes type (List.map a.eval [y]).toArray).run P w = .ok v w := h1
          rw [h1']
          exact hn _ _ h2
        all_goals simp_all
      case append =>
        split at h
        · simp_all
        · rename_i x y _ e
          obtain ⟨y1, y2, e2, rfl, rfl⟩ := two e
          obtain ⟨v, w', h1, h2⟩ := aAppend_ok hk hm hs hd h hpre (hev y1) (hev y2) type
          simp only [Sem.run_bind, Sem.run_pure, Result.andThen_ok, invoke, builtin, e2]
          have h1' : (Builtin.append_ argTypes type (List.map a.eval [y1, y2]).toArray).run P w = .ok v w' := h1
          rw [h1']
          exact hn _ _ h2
        all_goals simp_all
      case copy =>
        split at h
        · simp_all
        · simp_all
        · rename_i x y _ e
          obtain ⟨y1, y2, e2, rfl, rfl⟩ := two e
          obtain ⟨v, w', h1, h2⟩ := aCopy_ok hk hm hs h (hev y1) (hev y2) type
          simp only [Sem.run_bind, Sem.run_pure, Result.andThen_ok, invoke, builtin, e2]
          have h1' : (Builtin.copy_ argTypes type (List.map a.eval [y1, y2]).toArray).run P w = .ok v w' := h1
          rw [h1']
          exact hn _ _ h2
        all_goals simp_all
      case clear =>
        split at h
        · simp_all
        · simp_all
        · simp_all
        · rename_i x _ e
          obtain ⟨y, e2, rfl⟩ := one e
          obtain ⟨v, w', h1, h2⟩ := aClear_ok hk hm hs h (hev y) type
          simp only [Sem.run_bind, Sem.run_pure, Result.andThen_ok, invoke, builtin, e2]
          have h1' : (Builtin.clear_ argTypes type (List.map a.eval [y]).toArray).run P w = .ok v w' := h1
          rw [h1']
          exact hn _ _ h2
        all_goals simp_all
      case min =>
        have h : (match aMin min (args.toList.map ev) with | some v => eff True v | none => none) = some e := h
        split at h
        · rename_i r hr
          cases h
          obtain ⟨x, k', v, e1, h1, h2⟩ := aMin_ok hm _ Builtin.min2 min2_run (fun x y => by omega) hr (ERs.map hev args.toList)
          simp only [Sem.run_bind, Sem.run_pure, Result.andThen_ok, invoke, builtin, Builtin.min_, List.toList_toArray, e1, h1]
          exact hn _ _ h2
        · cases h
      case max =>
        have h : (match aMin max (args.toList.map ev) with | some v => eff True v | none => none) = some e := h
        split at h
        · rename_i r hr
          cases h
          obtain ⟨x, k', v, e1, h1, h2⟩ := aMin_ok hm _ Builtin.max2 max2_run (fun x y => by omega) hr (ERs.map hev args.toList)
          simp only [Sem.run_bind, Sem.run_pure, Result.andThen_ok, invoke, builtin, Builtin.max_, List.toList_toArray, e1, h1]
          exact hn _ _ h2
        · cases h
      all_goals (split at h <;> first | (cases h; done) | simp_all)
    all_goals cases h
  all_goals cases h

end

end Go.Tk
