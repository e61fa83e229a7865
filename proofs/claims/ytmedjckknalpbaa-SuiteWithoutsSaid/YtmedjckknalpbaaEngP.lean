/- The engine, part P: the run through a function's code, and what it shows of the function. No conditions. -/
import Derived.Test.YtmedjckknalpbaaEngO
import Derived.Laws.Sem
set_option linter.unusedSimpArgs false
set_option linter.unusedVariables false
namespace Go.Tk
open Go Go.RowKit

/-! ### States that are written out; a state that is within another one -/
def mkLoc (M : List (Nat × L)) : Mem := fun k => match lk M k with
  | some l => some (0, l)
  | none => none

def mkSt (x : List (Nat × V) × List (Nat × L)) : St := ⟨fun n => match lk x.1 n with | some v => v | none => .any, mkLoc x.2⟩

def cur (m : Mem) (k g : Nat) : Bool := match m k with
  | some (g', _) => Nat.beq g g'
  | none => false

def has {α : Type _} (M : List (Nat × α)) (k : Nat) : Bool := match lk M k with
  | some _ => true
  | none => false

/-! ### The run -/
def thenX (next : St → Prop) (Φ : Exit → St → Prop) : Exit → St → Prop
  | .normal, st => next st
  | e, st => Φ e st

def blockX (id : Nat) (Φ : Exit → St → Prop) : Exit → St → Prop
  | .exit j, st => match Nat.beq j id with | true => Φ .normal st | false => Φ (.exit j) st
  | e, st => Φ e st

abbrev Lst := List (Nat × V) × List (Nat × L)

/-- No range over a function. -/
def noRF : Code → Bool
  | .seq a b => noRF a && noRF b
  | .cond _ a b => noRF a && noRF b
  | .block _ b => noRF b
  | .loop b => noRF b
  | .scope b => noRF b
  | .rangeFunc _ _ _ _ => false
  | _ => true

/-- The temporaries that a code writes to. -/
def wrs : Code → List Nat
  | .region _ ops _ => ops.toList.filterMap (·.dst)
  | .seq a b => wrs a ++ wrs b
  | .cond _ a b => wrs a ++ wrs b
  | .block _ b => wrs b
  | .loop b => wrs b
  | .scope b => wrs b
  | .rangeFunc _ ps a b => ps.toList ++ (wrs a ++ wrs b)
  | _ => []

/-- What of a function's code holds whatever it is called with. -/
def okC (n : Nat) : Code → Bool
  | .region _ ops draw => dstsOK n ops.toList && (!draw || Region.lexB .any ops)
  | .seq a b => okC n a && okC n b
  | .cond _ a b => okC n a && okC n b
  | .block _ b => okC n b
  | .loop b => okC n b
  | .scope b => okC n b
  | .rangeFunc _ ps a b => okC n a && okC n b && noRF a && noRF b && ps.toList.all (fun t => Nat.ble (t + 1) n)
  | _ => true

section
variable {P : Program} {B : Bs} {w0 : World} {cx : Cx}

theorem mkLoc_some {M : List (Nat × L)} {k g : Nat} {l : L} (h : mkLoc M k = some (g, l)) : g = 0 ∧ lk M k = some l := by
  unfold mkLoc at h
  split at h
  · rename_i e; cases h; exact ⟨rfl, e⟩
  · cases h

/-! ### The run is sound -/
def relPost (P : Program) (B : Bs) (w0 : World) (n : Nat) (Φ : Exit → St → Prop) : Exit → Act → World → Prop := fun e a w => ∃ st, Φ e st ∧ Rel P B w0 n st a w

/-! ### What a function is called with, and what it gives back -/
def argE : (A : T) → A.den → Nat → List (Nat × V)
  | .cons a b, x, k => (k, .d false a x.1) :: argE b x.2 (k + 1)
  | _, _, _ => []

def retVs (cx : Cx) (st : St) : List ResultVar → Option (List V)
  | [] => some []
  | .tmp t :: l => match retVs cx st l with
    | some vs => some (st.env t :: vs)
    | none => none
  | .cell a ty :: l => match aLoad cx ty st.loc (st.env a) with
    | some e => match retVs cx st l with
      | some vs => some (e.val :: vs)
      | none => none
    | none => none

def dataChk (cx : Cx) (al : Bool) : (R : T) → R.den → List V → Mem → (Mem → Prop) → Prop
  | .nil, _, [], m, K => K m
  | .cons a b, y, v :: l, m, K => match stor cx.Γ m a v with
    | some (f, x, u) => match f || al || a.flat with
      | true => x = y.1 ∧ dataChk cx al b y.2 l (putLoc m u) K
      | false => False
    | none => False
  | _, _, _, _, _ => False

def ownChk (al : Bool) (s : T) (y : List s.den) (v : V) (m : Mem) : Prop := match v with
  | .own k g => match m k with
    | some (g', .sl f s' xs) => match Nat.beq g g' && (f || al || s.flat) with
      | true => if h : (T.sl s').beq (.sl s) = true then castT (pf h) xs = y else False
      | false => False
    | some (g', .box f (.arr n s') xs) => match Nat.beq g g' && (f || al || s.flat) && Nat.ble n 1000000 with
      | true => if h : (T.sl s').beq (.sl s) = true then castT (a := .sl s') (b := .sl s) (pf h) xs = y else False
      | false => False
    | _ => False
  | .inn k g h n => match innX m k g h n with
    | some (f, ⟨s', xs⟩) => match f || al || s.flat with
      | true => if h : (T.sl s').beq (.sl s) = true then castT (a := .sl s') (b := .sl s) (pf h) xs = y else False
      | false => False
    | none => False
  | .c (.slice none 0 0) => y = []
  | _ => False

def retChk (cx : Cx) (al : Bool) : (R : T) → R.den → List V → Mem → Prop
  | .cons (.osl s) b, y, v :: l, m => dataChk cx al b y.2 l m fun m' => ownChk al s y.1 v m'
  | R, y, l, m => dataChk cx al R y l m fun _ => True

def retOK (cx : Cx) (al : Bool) (rs : List ResultVar) (R : T) (y : R.den) (st : St) : Prop := match retVs cx st rs with
  | some vs => retChk cx al R y vs st.loc
  | none => False

def resOne (tmps : Array Value) : ResultVar → Sem Value
  | .tmp t => pure (tmps.getD t undef)
  | .cell a t => do loadVar t (← asAddr (tmps.getD a undef))

theorem results_run {fn : Func} {tmps : Array Value} {w : World} {vals : List Value} (h : (fn.results.toList.mapM (resOne tmps)).run P w = .ok vals w) : (results fn tmps).run P w = .ok (mkRes vals) w := by
  have e : results fn tmps = (do
    let vs ← fn.results.mapM (resOne tmps)
    pure (if h : vs.size = 1 then vs[0] else .tuple vs)) := by
    unfold results
    congr 1
  rw [e, Sem.run_bind, Array.mapM_eq_mapM_toList, ← bind_pure_comp, Sem.run_bind, h]
  simp only [Result.andThen_ok, Sem.run_pure]
  congr 1
  match vals with
  | [] => rfl
  | [v] => rfl
  | _ :: _ :: _ => rfl

theorem aLoad_here (hk : Cok P cx) {G : Nat → Gh} {m : Mem} {w : World} (hm : MRel P B G m w w0) {t : TypeId} {a : V} {e : Eff} (h : aLoad cx t m a = some e) {va : Value} (hv : ERep P B G m w a va) :
    ∃ ad v, va = .pointer (some ad) ∧ (loadVar t ad).run P w = .ok v w ∧ ERep P B G m w e.val v := by
  obtain ⟨b, o, v, h1, h2, h3, _⟩ := aLoad_run hk hm (fun _ _ h => h) h hv
  exact ⟨_, v, h1, h2, h3⟩

theorem retVs_run (hk : Cok P cx) {G : Nat → Gh} {st : St} {a : Act} {w : World} (hm : MRel P B G st.loc w w0) (he : ∀ t, ERep P B G st.loc w (st.env t) (a.tmps.getD t undef)) : ∀ (l : List ResultVar) (vs : List V), retVs cx st l = some vs → ∃ vals, (l.mapM (resOne a.tmps)).run P w = .ok vals w ∧ ERs P B G st.loc w vs vals
  | [], vs, h => by cases h; exact ⟨[], by simp, trivial⟩
  | .tmp t :: l, vs, h => by
    unfold retVs at h
    split at h
    · rename_i vs' e
      cases h
      obtain ⟨vals, h1, h2⟩ := retVs_run hk hm he l vs' e
      exact ⟨a.tmps.getD t undef :: vals, by simp [resOne, h1], he t, h2⟩
    · cases h
  | .cell p ty :: l, vs, h => by
    unfold retVs at h
    split at h
    · rename_i e hl
      split at h
      · rename_i vs' e'
        cases h
        obtain ⟨vals, h1, h2⟩ := retVs_run hk hm he l vs' e'
        obtain ⟨ad, v, h3, h4, h5⟩ := aLoad_here hk hm hl (he p)
        exact ⟨v :: vals, by simp [resOne, h3, asAddr, h4, h1], h5, h2⟩
      · cases h
    · cases h

/-- A datum that is handed back. -/
def inS (P : Program) (B : Bs) (G : Nat → Gh) (m : Mem) (al : Bool) (b : Nat) : Prop := (B.n ≤ b ∨ (al = true ∧ B.S b)) ∧ ∀ k g l, m k = some (g, l) → l.mut = true → ¬ ownL (G k) l b

theorem dS_inS {G : Nat → Gh} {m : Mem} {f al : Bool} {b : Nat} (h : dS B G m f b) (hf : (f || al) = true) : inS P B G m al b := by
  refine ⟨?_, h.2.1⟩
  cases f with
  | true => exact .inl (h.1.1 rfl)
  | false => cases al with
    | true => exact h.1.2.imp id fun h => ⟨rfl, h⟩
    | false => simp at hf

theorem c_inS {G : Nat → Gh} {m : Mem} {w : World} {f al : Bool} {t : T} {x : t.den} {cs : List Value} (h : (reps P t).c w (dS B G m f) x cs) (hf : (f || al || t.flat) = true) : (reps P t).c w (inS P B G m al) x cs := by
  cases hfl : t.flat
  · exact c_mono t h fun b _ hb => dS_inS hb (by rw [hfl] at hf; simpa using hf)
  · exact c_flat t hfl h

theorem dataChk_ok (hk : Cok P cx) {al : Bool} {w : World} {G : Nat → Gh} {K : Mem → Prop} : ∀ (R : T) (y : R.den) (l : List V) (vals : List Value) (m : Mem), MRel P B G m w w0 → ERs P B G m w l vals → dataChk cx al R y l m K →
    ∃ m', MRel P B G m' w w0 ∧ Ext B G m w G m' w ∧ K m' ∧ ∀ m2, Ext B G m' w G m2 w → (reps P R).v w (inS P B G m2 al) y vals []
  | .nil, _, [], [], m, hm, _, h => ⟨m, hm, Ext.refl, h, fun _ _ => ⟨rfl, rfl⟩⟩
  | .nil, _, [], _ :: _, _, _, h, _ => h.elim
  | .nil, _, _ :: _, _, _, _, _, h => h.elim
  | .cons a b, _, [], _, _, _, _, h => h.elim
  | .cons a b, y, v :: l, [], _, _, h, _ => h.elim
  | .cons a b, y, v :: l, u :: vals, m, hm, ⟨hv, hl⟩, h => by
    unfold dataChk at h
    split at h
    · rename_i f x us hst
      split at h
      · rename_i hf
        obtain ⟨rfl, h⟩ := h
        obtain ⟨r1, r2, cs, rfl, hc⟩ := stor_spec hk hm (fun _ _ h => h) hst hv
        have hl' : ERs P B G (putLoc m us) w l vals := by
          have : ∀ (l : List V) (vals : List Value), ERs P B G m w l vals → ERs P B G (putLoc m us) w l vals := by
            intro l
            induction l with
            | nil => intro vals h; cases vals <;> exact h
            | cons v l ih => intro vals h; cases vals with
              | nil => exact h.elim
              | cons u vals => exact ⟨h.1.ext r2, ih _ h.2⟩
          exact this l vals hl
        obtain ⟨m', a1, a2, a3, a4⟩ := dataChk_ok hk b y.2 l vals (putLoc m us) r1 hl' h
        refine ⟨m', a1, r2.trans a2, a3, fun m2 he => ?_⟩
        exact ⟨_, vals, [], [], rfl, rfl, o_of_c (c_inS ((a2.trans he).c hc) hf), a4 m2 he⟩
      · exact h.elim
    · exact h.elim
  | .int, _, [], _, _, _, _, h => h.elim
  | .int, _, _ :: _, _, _, _, _, h => h.elim
  | .bool, _, [], _, _, _, _, h => h.elim
  | .bool, _, _ :: _, _, _, _, _, h => h.elim
  | .sl _, _, [], _, _, _, _, h => h.elim
  | .sl _, _, _ :: _, _, _, _, _, h => h.elim
  | .osl _, _, [], _, _, _, _, h => h.elim
  | .ref _, _, [], _, _, _, _, h => h.elim
  | .osl _, _, _ :: _, _, _, _, _, h => h.elim
  | .ref _, _, _ :: _, _, _, _, _, h => h.elim
  | .arr _ _, _, [], _, _, _, _, h => h.elim
  | .arr _ _, _, _ :: _, _, _, _, _, h => h.elim
  | .fn _ _, _, [], _, _, _, _, h => h.elim
  | .fn _ _, _, _ :: _, _, _, _, _, h => h.elim
  | .nsl _, _, [], _, _, _, _, h => h.elim
  | .nsl _, _, _ :: _, _, _, _, _, h => h.elim
  | .seq _ _, _, [], _, _, _, _, h => h.elim
  | .seq _ _, _, _ :: _, _, _, _, _, h => h.elim

theorem retChk_ok (hk : Cok P cx) {al : Bool} {w : World} {G : Nat → Gh} {R : T} {y : R.den} {l : List V} {vals : List Value} {m : Mem} (hm : MRel P B G m w w0) (hl : ERs P B G m w l vals) (h : retChk cx al R y l m) :
    ∃ bs, (reps P R).v w (fun b => (B.n ≤ b ∨ (al = true ∧ B.S b)) ∧ b ∉ bs) y vals bs ∧ bs.Nodup ∧ ∀ b ∈ bs, B.n ≤ b := by
  have plain : ∀ (h : dataChk cx al R y l m fun _ => True), ∃ bs, (reps P R).v w (fun b => (B.n ≤ b ∨ (al = true ∧ B.S b)) ∧ b ∉ bs) y vals bs ∧ bs.Nodup ∧ ∀ b ∈ bs, B.n ≤ b := by
    intro h
    obtain ⟨m', a1, a2, _, a4⟩ := dataChk_ok hk R y l vals m hm hl h
    exact ⟨[], v_mono R (a4 m' Ext.refl) fun b hb => ⟨hb.1, by simp⟩, by simp, by simp⟩
  cases R with
  | cons a b =>
    cases a
    case osl s =>
      cases l with
      | nil => exact plain h
      | cons v l =>
        cases vals with
        | nil => exact hl.elim
        | cons u vals =>
          obtain ⟨hv, hl⟩ := hl
          obtain ⟨m', a1, a2, a3, a4⟩ := dataChk_ok hk b y.2 l vals m hm hl h
          have hv := hv.ext a2
          unfold ownChk at a3
          split at a3
          · skip
            rename_i _ k g _
            split at a3
            · rename_i g' f s' xs e
              split at a3
              · rename_i hg
                rw [Bool.and_eq_true] at hg
                split at a3
                · rename_i hb
                  obtain ⟨g2, l2, e2, _, hv⟩ := hv
                  rw [e] at e2; cases e2
                  have hv := hv (Nat.eq_of_beq_eq_true hg.1)
                  have hs := T.beq_eq hb
                  cases hs
                  have a3 : xs = y.1 := a3
                  subst a3
                  have hown := a1.loc k _ _ e
                  unfold LRep at hown
                  have hv : u = (G k).hdr := hv
                  refine ⟨((G k).blk.map (·.1)).toList, ⟨u, vals, _, [], rfl, by simp, ⟨(G k).blk, ?_, rfl⟩, ?_⟩, ?_, ?_⟩
                  · rw [hv]
                    rcases hown with hown | ⟨b1, off, cap, cu, e1, h1, h2, h3, h4, h5, h6, h7, h8⟩
                    · exact .inl hown
                    · refine .inr ⟨b1, off, cap, cu, e1, h1, h2, trivial, h4, h5, h6, h7, repL_mono (fun x cs hx => ?_) _ _ h8⟩
                      refine c_mono _ (c_inS (al := al) hx hg.2) fun b _ hb => ⟨hb.1, ?_⟩
                      rw [h1]
                      simp
                      intro e3
                      subst e3
                      exact hb.2 k _ _ e rfl ⟨off, h1⟩
                  · refine v_mono b (a4 m' Ext.refl) fun b0 hb => ⟨hb.1, ?_⟩
                    intro hmem
                    cases hbk : (G k).blk with
                    | none => rw [hbk] at hmem; simp at hmem
                    | some bo =>
                      obtain ⟨b1, o⟩ := bo
                      rw [hbk] at hmem
                      simp at hmem
                      subst hmem
                      exact hb.2 k _ _ e rfl ⟨o, hbk⟩
                  · cases (G k).blk <;> simp
                  · intro b0 hmem
                    cases hbk : (G k).blk with
                    | none => rw [hbk] at hmem; simp at hmem
                    | some bo =>
                      obtain ⟨b1, o⟩ := bo
                      rw [hbk] at hmem
                      simp at hmem
                      subst hmem
                      exact ((a1.loc k _ _ e).blk_lt rfl ⟨o, hbk⟩).2
                · exact a3.elim
              · exact a3.elim
            · rename_i g' f nn s' xs e
              split at a3
              · rename_i hg
                simp only [Bool.and_eq_true] at hg
                split at a3
                · rename_i hb
                  obtain ⟨g2, l2, e2, _, hv⟩ := hv
                  rw [e] at e2; cases e2
                  have hv := hv (Nat.eq_of_beq_eq_true hg.1.1)
                  have hs := T.beq_eq hb
                  cases hs
                  have a3 : xs = y.1 := a3
                  subst a3
                  have hn := Nat.le_of_ble_eq_true hg.2
                  obtain ⟨b1, cu, e3, h1, h2, h3, h4, h5⟩ := a1.loc k _ _ e
                  have hlen := c_len (P := P) (.arr nn s) h5
                  obtain ⟨h6, h7⟩ := h5
                  have hv : u = .slice (some ⟨b1, 0, none⟩) nn nn := by rw [hv]; unfold hdrOf; rw [h2]
                  refine ⟨[b1], ⟨u, vals, _, [], rfl, by simp, ⟨some (b1, 0), ?_, rfl⟩, ?_⟩, by simp, ?_⟩
                  · refine .inr ⟨b1, 0, nn, cu, e3, rfl, by rw [h6]; exact hv, trivial, h4, by omega, by omega, ?_, ?_⟩
                    · simp only [T.csize, Array.length_toList] at hlen
                      omega
                    · rw [List.drop_zero, List.take_of_length_le (by rw [hlen, h6]; exact Nat.le_refl _)]
                      refine repL_mono (fun x cs hx => ?_) _ _ h7
                      refine c_mono _ (c_inS (al := al) hx hg.1.2) fun b _ hb => ⟨hb.1, ?_⟩
                      simp
                      intro e4
                      subst e4
                      exact hb.2 k _ _ e rfl ⟨0, h1⟩
                  · refine v_mono b (a4 m' Ext.refl) fun b0 hb => ⟨hb.1, ?_⟩
                    intro hmem
                    simp at hmem
                    subst hmem
                    exact hb.2 k _ _ e rfl ⟨0, h1⟩
                  · intro b0 hmem
                    simp at hmem
                    subst hmem
                    exact h3
                · exact a3.elim
              · exact a3.elim
            · exact a3.elim
          · rename_i _ k g hh n _
            split at a3
            · rename_i f s' xs e
              split at a3
              · rename_i hg
                split at a3
                · rename_i hb
                  have hs := T.beq_eq hb
                  cases hs
                  have a3 : xs = y.1 := a3
                  subst a3
                  obtain ⟨xss, hole, q1, q2, q3, q4, q5⟩ := innX_spec a1 (fun _ _ h => h) e hv
                  refine ⟨(((G k).ib n).map (·.1)).toList, ⟨u, vals, _, [], rfl, by simp, ⟨(G k).ib n, ?_, rfl⟩, ?_⟩, ?_, ?_⟩
                  · rcases q5 with hown | ⟨b1, off, cap, cu, e1, h1, h2, h3, h4, h5, h6, h7, h8⟩
                    · exact .inl hown
                    · refine .inr ⟨b1, off, cap, cu, e1, h1, h2, trivial, h4, h5, h6, h7, repL_mono (fun x cs hx => ?_) _ _ h8⟩
                      refine c_mono _ (c_inS (al := al) hx hg) fun b _ hb => ⟨hb.1, ?_⟩
                      rw [h1]
                      simp
                      intro e3
                      subst e3
                      exact hb.2 k _ _ q1 rfl (.inr ⟨n, off, h1⟩)
                  · refine v_mono b (a4 m' Ext.refl) fun b0 hb => ⟨hb.1, ?_⟩
                    intro hmem
                    cases hbk : (G k).ib n with
                    | none => rw [hbk] at hmem; simp at hmem
                    | some bo =>
                      obtain ⟨b1, o⟩ := bo
                      rw [hbk] at hmem
                      simp at hmem
                      subst hmem
                      exact hb.2 k _ _ q1 rfl (.inr ⟨n, o, hbk⟩)
                  · cases (G k).ib n <;> simp
                  · intro b0 hmem
                    cases hbk : (G k).ib n with
                    | none => rw [hbk] at hmem; simp at hmem
                    | some bo =>
                      obtain ⟨b1, o⟩ := bo
                      rw [hbk] at hmem
                      simp at hmem
                      subst hmem
                      exact ((a1.loc k _ _ q1).own_lt rfl (.inr ⟨n, o, hbk⟩)).2
                · exact a3.elim
              · exact a3.elim
            · exact a3.elim
          · have hv : u = .slice none 0 0 := hv
            refine ⟨[], ⟨u, vals, [], [], rfl, rfl, ⟨none, .inl ⟨hv, a3, rfl⟩, rfl⟩, v_mono b (a4 m' Ext.refl) fun b hb => ⟨hb.1, by simp⟩⟩, by simp, by simp⟩
          · exact a3.elim
    all_goals exact plain h
  | _ => exact plain h

/-! ### The law of a function -/
def isTup : T → Bool
  | .nil => true
  | .cons (.osl _) _ => false
  | .cons _ b => isTup b
  | _ => false

def arity : T → Nat
  | .cons _ b => arity b + 1
  | _ => 0

theorem argE_ok {w : World} {S S' : Nat → Prop} (hS : ∀ b, S b → S' b) : ∀ (A : T) (x : A.den) (vs : List Value) (k : Nat), isTup A = true → (reps P A).v w S x vs [] → vs.length = arity A ∧ A.wf x ∧ ∀ t V, lk (argE A x k) t = some V → k ≤ t ∧ ∃ v f a y cs, vs[t - k]? = some v ∧ V = .d f a y ∧ v = mkV a cs ∧ (reps P a).c w S' y cs ∧ f = false
  | .nil, _, _, k, _, ⟨rfl, _⟩ => ⟨rfl, trivial, fun t V h => by simp [argE, lk] at h⟩
  | .cons a b, x, _, k, ht, ⟨v, vs, b1, b2, rfl, e2, h1, h2⟩ => by
    obtain ⟨rfl, rfl⟩ := List.append_eq_nil_iff.1 e2.symm
    have ht' : isTup b = true := by cases a <;> simp_all [isTup]
    obtain ⟨i1, i2, i3⟩ := argE_ok hS b x.2 vs (k + 1) ht' h2
    have ho : ∃ cs, v = mkV a cs ∧ (reps P a).c w S x.1 cs := by
      cases a
      case osl s => simp [isTup] at ht
      all_goals exact h1.2
    obtain ⟨cs, rfl, hc⟩ := ho
    refine ⟨by simp [arity, i1], ⟨c_wf a hc, i2⟩, fun t V h => ?_⟩
    simp only [argE, lk] at h
    split at h
    · rename_i e
      obtain rfl := Nat.eq_of_beq_eq_true e
      cases h
      exact ⟨Nat.le_refl _, _, _, _, _, cs, by simp, rfl, rfl, c_mono a hc fun b _ h => hS b h, rfl⟩
    · obtain ⟨j1, v, f, a', y, cs, j2, j3⟩ := i3 t V h
      refine ⟨by omega, v, f, a', y, cs, ?_, j3⟩
      rw [show t - k = (t - (k + 1)) + 1 by omega]
      simpa using j2
  | .int, _, _, _, _, h => h.elim
  | .bool, _, _, _, _, h => h.elim
  | .sl _, _, _, _, _, h => h.elim
  | .osl _, _, _, _, _, h => h.elim
  | .ref _, _, _, _, _, h => h.elim
  | .arr _ _, _, _, _, _, h => h.elim
  | .fn _ _, _, _, _, _, h => h.elim
  | .nsl _, _, _, _, _, h => h.elim
  | .seq _ _, _, _, _, _, h => h.elim

end

end Go.Tk
