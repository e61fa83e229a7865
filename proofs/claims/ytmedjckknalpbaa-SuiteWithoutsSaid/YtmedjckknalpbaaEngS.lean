/- The engine, part S: the run with labels at its loops' heads (and at joins): what a function's code does, as one proposition for each stretch between labels. No conditions. -/
import Derived.Test.YtmedjckknalpbaaEngV
set_option linter.unusedSimpArgs false
set_option linter.unusedVariables false
namespace Go.Tk
open Go Go.RowKit

/-! ### The run -/
def lpK (ly : Option Lay) (Λ : Lst → Prop) (st : St) : Prop := match ly with
  | some ly => canK ly Λ st
  | none => False

def jnK (ly : Option Lay) (Λ : Lst → Prop) (K : St → Prop) (st : St) : Prop := match ly with
  | some ly => canK ly Λ st
  | none => K st

/-- A region in which an iterator calls yield. -/
def isY (ops : List Oper) : Bool := ops.any fun o => match o.op with
  | .move (.tmp t) => Nat.beq t 0
  | _ => false

def regW (cx : Cx) (ops : List Oper) (st : St) (K : St → Prop) : Prop := match cx.X.pan with
 | some p => pGo cx p ops st K
 | none => match cx.X.itf with
  | none => runG cx ops ops st [] fun st _ => K st
  | some fr => match isY ops with
    | true => yGo cx fr ops st K
    | false => runG cx ops ops st [] fun st _ => K st

def scopeX (Φ : Exit → St → Prop) : Exit → St → Prop
  | .goto _, _ => False
  | e, st => Φ e st

def thenF (K : St → Prop) : Exit → St → Prop
  | .normal, st => K st
  | _, _ => False

def ghS (wr : List Nat) (fr : Bool) (A : T) (ys : List A.den) (k : Nat) (st : St) : St := ⟨outE wr st.env, set1 st.loc rgK (nx st.loc rgK) (.rg fr A ys k)⟩

def rfX (wr : List Nat) (next : St → Prop) (Φ : Exit → St → Prop) : Exit → St → Prop
  | .normal, st => next st
  | .ret, st => Φ .ret (outSt wr st)
  | .exit j, st => Φ (.exit j) (outSt wr st)
  | _, _ => False

def Wl (cx : Cx) : (Pth → Option Lay) → (Pth → Lst → Prop) → Code → (Exit → St → Prop) → St → Prop
  | _, _, .skip, Φ, st => Φ .normal st
  | _, _, .label _, Φ, st => Φ .normal st
  | _, _, .exit j, Φ, st => Φ (.exit j) st
  | _, _, .ret, Φ, st => Φ .ret st
  | _, _, .region _ ops draw, Φ, st => match draw with
    | false => regW cx ops.toList st (Φ .normal)
    | true => runG cx ops.toList ops.toList st [] fun st acc => match ncB ops.toList acc with | true => Φ .normal st | false => False
  | ly, Λ, .seq a b, Φ, st => Wl cx (fun p => ly (0 :: p)) (fun p => Λ (0 :: p)) a (thenX (jnK (ly [2]) (Λ [2]) (Wl cx (fun p => ly (1 :: p)) (fun p => Λ (1 :: p)) b Φ)) Φ) st
  | ly, Λ, .cond c a b, Φ, st => match st.eval c with
    | .d _ .bool x => if x = true then Wl cx (fun p => ly (0 :: p)) (fun p => Λ (0 :: p)) a Φ st else Wl cx (fun p => ly (1 :: p)) (fun p => Λ (1 :: p)) b Φ st
    | .ub p q => (p → Wl cx (fun p => ly (0 :: p)) (fun p => Λ (0 :: p)) a Φ st) ∧ (q → Wl cx (fun p => ly (1 :: p)) (fun p => Λ (1 :: p)) b Φ st)
    | _ => False
  | ly, Λ, .block id b, Φ, st => Wl cx (fun p => ly (0 :: p)) (fun p => Λ (0 :: p)) b (blockX id Φ) st
  | ly, Λ, .scope b, Φ, st => Wl cx (fun p => ly (0 :: p)) (fun p => Λ (0 :: p)) b (scopeX Φ) st
  | ly, Λ, .loop b, Φ, st => lpK (ly []) (Λ []) st
  | ly, Λ, .rangeFunc g ps a b, Φ, st => match st.eval g with
    | .d _ (.seq fr A) F => match A.noOwn && Nat.beq ps.toList.length (arity A) with
      | true => F.1 ∧ lpK (ly []) (Λ []) (ghS (wrs (.rangeFunc g ps a b)) fr A F.2 0 st)
      | false => False
    | _ => False
  | _, _, _, _, _ => False

/-- What is shown at a label: the stretch behind it. -/
def hdAt (cx : Cx) : (Pth → Option Lay) → (Pth → Lst → Prop) → Code → (Exit → St → Prop) → Pth → Lst → Prop
  | ly, Λ, .seq a b, Φ, p, x => match p with
    | 0 :: p => hdAt cx (fun p => ly (0 :: p)) (fun p => Λ (0 :: p)) a (thenX (jnK (ly [2]) (Λ [2]) (Wl cx (fun p => ly (1 :: p)) (fun p => Λ (1 :: p)) b Φ)) Φ) p x
    | 1 :: p => hdAt cx (fun p => ly (1 :: p)) (fun p => Λ (1 :: p)) b Φ p x
    | 2 :: [] => Wl cx (fun p => ly (1 :: p)) (fun p => Λ (1 :: p)) b Φ (mkSt x)
    | _ => False
  | ly, Λ, .cond _ a b, Φ, p, x => match p with
    | 0 :: p => hdAt cx (fun p => ly (0 :: p)) (fun p => Λ (0 :: p)) a Φ p x
    | 1 :: p => hdAt cx (fun p => ly (1 :: p)) (fun p => Λ (1 :: p)) b Φ p x
    | _ => False
  | ly, Λ, .block id b, Φ, p, x => match p with
    | 0 :: p => hdAt cx (fun p => ly (0 :: p)) (fun p => Λ (0 :: p)) b (blockX id Φ) p x
    | _ => False
  | ly, Λ, .scope b, Φ, p, x => match p with
    | 0 :: p => hdAt cx (fun p => ly (0 :: p)) (fun p => Λ (0 :: p)) b (scopeX Φ) p x
    | _ => False
  | ly, Λ, .loop b, Φ, p, x => match p with
    | [] => Wl cx (fun p => ly (0 :: p)) (fun p => Λ (0 :: p)) b (thenX (lpK (ly []) (Λ [])) Φ) (mkSt x)
    | 0 :: p => hdAt cx (fun p => ly (0 :: p)) (fun p => Λ (0 :: p)) b (thenX (lpK (ly []) (Λ [])) Φ) p x
    | _ => False
  | ly, Λ, .rangeFunc g ps a b, Φ, p, x => match p with
    | [] => match lk x.2 rgK with
      | some (.rg fr A ys k) => (∀ y, ys[k]? = some y → Wl cx (fun _ => none) (fun _ _ => False) a (thenF (Wl cx (fun _ => none) (fun _ _ => False) b (rfX (wrs (.rangeFunc g ps a b)) (fun st => lpK (ly []) (Λ []) (ghS (wrs (.rangeFunc g ps a b)) fr A ys (k + 1) st)) Φ)))
            ⟨bindP ps.toList A y fr (outE (wrs (.rangeFunc g ps a b)) (mkSt x).env), (mkSt x).loc⟩) ∧ (ys.length ≤ k → Φ .normal (outSt (wrs (.rangeFunc g ps a b)) (mkSt x)))
      | _ => False
    | _ => False
  | _, _, _, _, _, _ => False

/-! ### More labels, less asked -/
theorem gnd_mono {o : Oper} {e : Eff} {X Y : Prop} (h : X → Y) (hg : gnd o e X) : gnd o e Y := by
  unfold gnd at *
  split at hg
  · exact h hg
  · exact ⟨hg.1, h hg.2⟩

theorem runG_mono {cx : Cx} {ops : List Oper} {Q Q' : St → List TU → Prop} (hQ : ∀ st acc, Q st acc → Q' st acc) : ∀ (l : List Oper) (st : St) (acc : List TU), runG cx ops l st acc Q → runG cx ops l st acc Q'
  | [], st, acc, h => hQ _ _ h
  | o :: l, st, acc, h => by
    unfold runG at h ⊢
    split at h
    · split at h
      · exact gnd_mono (runG_mono hQ l _ _) h
      · exact h
    · split at h
      · exact h
      · split at h
        · split at h
          · split at h
            · rename_i hx
              rw [if_pos hx]
              split at h
              · exact gnd_mono (runG_mono hQ l _ _) h
              · exact h
            · rename_i hx
              rw [if_neg hx]
              exact runG_mono hQ l _ _ h
          · split at h
            · rename_i hx
              rw [if_pos hx]
              exact runG_mono hQ l _ _ h
            · rename_i hx
              rw [if_neg hx]
              split at h
              · exact gnd_mono (runG_mono hQ l _ _) h
              · exact h
        · exact runG_mono hQ l _ _ h
        · exact h

theorem yGo_mono {cx : Cx} {fr : Bool} {Q Q' : St → Prop} (hQ : ∀ st, Q st → Q' st) : ∀ (l : List Oper) (st : St), yGo cx fr l st Q → yGo cx fr l st Q'
  | [], st, h => hQ _ h
  | o :: l, st, h => by
    unfold yGo at h ⊢
    split at h
    · exact h
    · split at h
      · split at h
        · split at h
          · split at h
            · split at h
              · rename_i hA
                rw [dif_pos hA]
                exact ⟨h.1, yGo_mono hQ l _ h.2.1, yGo_mono hQ l _ h.2.2⟩
              · exact h.elim
            · exact h
          · exact h
        · exact h
      · split at h
        · exact gnd_mono (yGo_mono hQ l _) h
        · exact h

theorem pGo_mono {cx : Cx} {p : PanX} {Q Q' : St → Prop} (hQ : ∀ st, Q st → Q' st) : ∀ (l : List Oper) (st : St), pGo cx p l st Q → pGo cx p l st Q'
  | [], st, h => hQ _ h
  | o :: l, st, h => by
    unfold pGo at h ⊢
    split at h
    · exact h
    · split at h
      · exact h
      · split at h
        · split at h
          · split at h
            · split at h
              · rename_i hA
                rw [dif_pos hA]
                exact ⟨h.1, fun e => pGo_mono hQ l _ (h.2.1 e), h.2.2⟩
              · exact h.elim
            · exact h
          · exact h
        · split at h
          · exact gnd_mono (pGo_mono hQ l _) h
          · exact h

theorem canK_mono {ly : Lay} {K K' : Lst → Prop} (h : ∀ x, K x → K' x) {st : St} (hc : canK ly K st) : canK ly K' st := by
  unfold canK at *
  split at hc
  · split at hc
    · exact h _ hc
    · exact hc
  · exact hc

theorem lpK_mono {ly : Option Lay} {K K' : Lst → Prop} (h : ∀ x, K x → K' x) {st : St} (hc : lpK ly K st) : lpK ly K' st := by
  unfold lpK at *
  split at hc
  · exact canK_mono h hc
  · exact hc

theorem Wl_mono {cx : Cx} : ∀ (c : Code) (ly : Pth → Option Lay) (Λ Λ' : Pth → Lst → Prop) (Φ Φ' : Exit → St → Prop) (st : St), (∀ p x, Λ p x → Λ' p x) → (∀ e st, Φ e st → Φ' e st) → Wl cx ly Λ c Φ st → Wl cx ly Λ' c Φ' st := by
  intro c
  induction c with
  | skip => intro ly Λ Λ' Φ Φ' st hΛ hΦ h; exact hΦ _ _ h
  | label l => intro ly Λ Λ' Φ Φ' st hΛ hΦ h; exact hΦ _ _ h
  | exit j => intro ly Λ Λ' Φ Φ' st hΛ hΦ h; exact hΦ _ _ h
  | ret => intro ly Λ Λ' Φ Φ' st hΛ hΦ h; exact hΦ _ _ h
  | region id ops draw =>
    intro ly Λ Λ' Φ Φ' st hΛ hΦ h
    cases draw with
    | false =>
      simp only [Wl, regW] at h ⊢
      split at h
      · exact pGo_mono (fun st h => hΦ _ _ h) _ _ h
      · split at h
        · exact runG_mono (fun st acc h => hΦ _ _ h) _ _ _ h
        · split at h
          · exact yGo_mono (fun st h => hΦ _ _ h) _ _ h
          · exact runG_mono (fun st acc h => hΦ _ _ h) _ _ _ h
    | true =>
      simp only [Wl] at h ⊢
      refine runG_mono (fun st acc h => ?_) _ _ _ h
      split at h
      · exact hΦ _ _ h
      · exact h
  | seq x y ihx ihy =>
    intro ly Λ Λ' Φ Φ' st hΛ hΦ h
    refine ihx _ _ _ _ _ _ (fun p x => hΛ _ x) (fun e st h => ?_) h
    cases e with
    | normal =>
      simp only [thenX, jnK] at h ⊢
      split at h
      · exact canK_mono (hΛ _) h
      · exact ihy _ _ _ _ _ _ (fun p x => hΛ _ x) hΦ h
    | _ => exact hΦ _ _ h
  | cond c x y ihx ihy =>
    intro ly Λ Λ' Φ Φ' st hΛ hΦ h
    simp only [Wl] at h ⊢
    split at h
    · split at h
      · rename_i hx; rw [if_pos hx]; exact ihx _ _ _ _ _ _ (fun p x => hΛ _ x) hΦ h
      · rename_i hx; rw [if_neg hx]; exact ihy _ _ _ _ _ _ (fun p x => hΛ _ x) hΦ h
    · exact ⟨fun hp => ihx _ _ _ _ _ _ (fun p x => hΛ _ x) hΦ (h.1 hp), fun hq => ihy _ _ _ _ _ _ (fun p x => hΛ _ x) hΦ (h.2 hq)⟩
    · exact h
  | block id x ih =>
    intro ly Λ Λ' Φ Φ' st hΛ hΦ h
    refine ih _ _ _ _ _ _ (fun p x => hΛ _ x) (fun e st h => ?_) h
    cases e with
    | exit j =>
      simp only [blockX] at h ⊢
      split at h
      · exact hΦ _ _ h
      · exact hΦ _ _ h
    | _ => exact hΦ _ _ h
  | scope x ih =>
    intro ly Λ Λ' Φ Φ' st hΛ hΦ h
    refine ih _ _ _ _ _ _ (fun p x => hΛ _ x) (fun e st h => ?_) h
    cases e with
    | goto l => exact h
    | _ => exact hΦ _ _ h
  | loop x ih => intro ly Λ Λ' Φ Φ' st hΛ hΦ h; exact lpK_mono (hΛ _) h
  | rangeFunc g ps x y ihx ihy =>
    intro ly Λ Λ' Φ Φ' st hΛ hΦ h
    simp only [Wl] at h ⊢
    split at h
    · split at h
      · exact ⟨h.1, lpK_mono (hΛ _) h.2⟩
      · exact h
    · exact h
  | _ => intro ly Λ Λ' Φ Φ' st hΛ hΦ h; exact h.elim

/-! ### The run is sound -/
section
variable {P : Program} {cx : Cx} {F : Fence} {n : Nat} {a : Act} {w : World}

theorem stepR_scope {b : Frame} {k : List Item} {cs : List Frame} {c : Code} : step P (lone (b.atR a (.code (.scope c) :: k)) cs w) = .next (lone (b.atR a (.code c :: .inScope c :: k)) cs w) :=
  step_lone_go (by simp [stepG, stepG.exec, Frame.atR])
theorem stepR_inScope {b : Frame} {k : List Item} {cs : List Frame} {c : Code} : step P (lone (b.atR a (.inScope c :: k)) cs w) = .next (lone (b.atR a k) cs w) :=
  step_lone_go (by simp [stepG, stepG.exec, Frame.atR])

theorem wpIn_scope {c : Code} {Q : Exit → Act → World → Prop} (h : c.wpIn F n P (fun e a w => match e with | .goto _ => False | e => Q e a w) a w) : (Code.scope c).wpIn F n P Q a w := by
  intro b k cs hro hb hr
  have h0 : (lone (b.atR a (.code (.scope c) :: k)) cs w).fenced P F := fenced_calm hb hr rfl
  obtain ⟨e, a₁, w₁, hq, harr⟩ := h b (.inScope c :: k) cs hro hb hr
  cases e with
  | normal => exact ⟨.normal, a₁, w₁, hq, .head h0 stepR_scope (StepsIn.trans harr (.one (fenced_calm hb hr rfl) stepR_inScope))⟩
  | exit id =>
    have hx : exitTo id (.inScope c :: k) = exitTo id k := by simp [exitTo]
    exact ⟨.exit id, a₁, w₁, hq, fun k' hk => .head h0 stepR_scope (harr.1 k' (by rw [hx]; exact hk)), fun hr' hk => let ⟨k₁, h1, h2⟩ := harr.2 hr' (by rw [hx]; exact hk); ⟨k₁, h1, .head h0 stepR_scope h2⟩⟩
  | goto l => exact hq.elim
  | ret => exact ⟨_, a₁, w₁, hq, .of_steps (.one h0 stepR_scope) harr⟩
  | panic ch => exact ⟨_, a₁, w₁, hq, .of_steps (.one h0 stepR_scope) harr⟩
  | outgrown => exact ⟨_, a₁, w₁, hq, .of_steps (.one h0 stepR_scope) harr⟩

/-- A loop that stands at its head. -/
def LoopAt (F : Fence) (P : Program) (c : Code) (Q : Exit → Act → World → Prop) (a : Act) (w : World) : Prop :=
  ∀ (b : Frame) (k : List Item) (cs : List Frame), b.roundOf = F.round → F.fn b.fn → F.room (cs.length + 1 + 0) → ∃ e a' w', Q e a' w' ∧ ArrivesIn (Machine.fenced P F) P (lone (b.atR a (.code c :: .inLoop c :: k)) cs w) b k cs e a' w'

theorem wp_loopAt {c : Code} {Q : Exit → Act → World → Prop} (h : LoopAt F P c Q a w) : (Code.loop c).wpIn F 0 P Q a w := fun b k cs hro hb hr =>
  let ⟨e, a', w', q, r⟩ := h b k cs hro hb hr; ⟨e, a', w', q, .of_steps (.one (fenced_calm hb hr rfl) stepR_loop) r⟩

theorem loopAt_round {c : Code} {Q : Exit → Act → World → Prop} (h : c.wpIn F 0 P (Exit.then (LoopAt F P c Q) Q) a w) : LoopAt F P c Q a w := by
  intro b k cs hro hb hr
  obtain ⟨e, a₁, w₁, hq, harr⟩ := h b (.inLoop c :: k) cs hro hb hr
  cases e with
  | normal =>
    obtain ⟨e₂, a₂, w₂, hq₂, harr₂⟩ := hq b k cs hro hb hr
    exact ⟨e₂, a₂, w₂, hq₂, .of_steps (StepsIn.trans harr (.one (fenced_calm hb hr rfl) stepR_inLoop)) harr₂⟩
  | exit id => exact ⟨_, a₁, w₁, hq, .pass (x := .inLoop c) rfl (fun _ _ => .inl (by simp)) harr⟩
  | goto l => exact ⟨_, a₁, w₁, hq, .pass (x := .inLoop c) rfl (fun _ _ => .inl (by simp)) harr⟩
  | ret => exact ⟨_, a₁, w₁, hq, .pass (x := .inLoop c) rfl (fun _ _ => .inl (by simp)) harr⟩
  | panic ch => exact ⟨_, a₁, w₁, hq, .pass (x := .inLoop c) rfl (fun _ _ => .inl (by simp)) harr⟩
  | outgrown => exact ⟨_, a₁, w₁, hq, .pass (x := .inLoop c) rfl (fun _ _ => .inl (by simp)) harr⟩

/-- What a label means: from each world that is as its list says, the rest runs to what is wanted. -/
def Sem (P : Program) (B : Bs) (w0 : World) (n : Nat) : Code → (Exit → Act → World → Prop) → Pth → Lst → Prop
  | .seq a b, Q, p, x => match p with
    | 0 :: p => Sem P B w0 n a (Exit.then (b.wpIn (Fw B.ro) 0 P Q) Q) p x
    | 1 :: p => Sem P B w0 n b Q p x
    | 2 :: [] => ∀ a w, Rel P B w0 n (mkSt x) a w → b.wpIn (Fw B.ro) 0 P Q a w
    | _ => False
  | .cond _ a b, Q, p, x => match p with
    | 0 :: p => Sem P B w0 n a Q p x
    | 1 :: p => Sem P B w0 n b Q p x
    | _ => False
  | .block id b, Q, p, x => match p with
    | 0 :: p => Sem P B w0 n b (Exit.inBlock id Q) p x
    | _ => False
  | .scope b, Q, p, x => match p with
    | 0 :: p => Sem P B w0 n b (fun e a w => match e with | .goto _ => False | e => Q e a w) p x
    | _ => False
  | .loop b, Q, p, x => match p with
    | [] => ∀ a w, Rel P B w0 n (mkSt x) a w → LoopAt (Fw B.ro) P b Q a w
    | 0 :: p => Sem P B w0 n b (Exit.then (LoopAt (Fw B.ro) P b Q) Q) p x
    | _ => False
  | .rangeFunc g ps a b, Q, p, x => match p with
    | [] => match lk x.2 rgK with
      | some (.rg fr A ys k) => SemF P B w0 n (wrs (.rangeFunc g ps a b)) ps.toList a b Q (ys.length - k) x
      | _ => False
    | _ => False
  | _, _, _, _ => False

theorem canK_ok {B : Bs} {w0 : World} {ly : Lay} {K : Lst → Prop} {st : St} {n : Nat} {a : Act} {w : World} (h : canK ly K st) (hR : Rel P B w0 n st a w) : ∃ x, K x ∧ Rel P B w0 n (mkSt x) a w := by
  unfold canK at h
  split at h
  · rename_i E hE
    split at h
    · rename_i M hM
      exact ⟨(E, M), h, can_rel hE hM hR⟩
    · exact h.elim
  · exact h.elim

theorem mem_inN : ∀ {l : List Nat} {t : Nat}, t ∈ l → inN l t = true
  | k :: l, t, h => by
    simp only [inN]
    split
    · rfl
    · rename_i e
      rcases List.mem_cons.1 h with rfl | h
      · simp at e
      · exact mem_inN h

/-- The ghost of a range over a function. -/
theorem gh_ok {B : Bs} {G : Nat → Gh} {w w0 : World} {wr : List Nat} {fr : Bool} {A : T} {ys : List A.den} {k : Nat} {st : St} {tmps : Array Value} (hm : MRel P B G st.loc w w0) (he : ∀ t, ERep P B G st.loc w (st.env t) (tmps.getD t undef)) :
    ∃ G', MRel P B G' (ghS wr fr A ys k st).loc w w0 ∧ (∀ t, ERep P B G' (ghS wr fr A ys k st).loc w ((ghS wr fr A ys k st).env t) (tmps.getD t undef)) ∧ ∀ f b, b < w.heap.size → dS B G st.loc f b → dS B G' (ghS wr fr A ys k st).loc f b := by
  have hch := Chg.new (B := B) (G := G) (m := st.loc) (w := w) rgK (gh undef none) (.rg fr A ys k) (Below.refl _ _) (fun b ⟨o, e⟩ => by cases e)
  have hx := hch.ext hm
  refine ⟨_, hch.rel hm (by unfold LRep; trivial), fun t => ?_, fun f b hb h => hx.sub f b hb h⟩
  show ERep P B _ _ w (outE wr st.env t) _
  unfold outE
  split
  · trivial
  · exact (he t).ext hx

/-- What stands to be shown of the bounds. -/
structure SB (P : Program) (cx : Cx) (B : Bs) (c : Code) : Prop where
  kv : ∀ t ∈ wrs c, B.kv t = none
  rf : noRF c = true ∨ (B.j = none ∧ (∀ b, ¬ (B.fo b ∨ B.kb b)) ∧ (∀ t, B.kv t = none) ∧ B.ro = none)
  it : ∀ fr, cx.X.itf = some fr → ItB P B fr
  pn : cx.X.pan = none ∨ noRF c = true

/-- With a panic of ours the function's code may end. -/
def PanQ (P : Program) (B : Bs) (w0 : World) (cx : Cx) (Q : Exit → Act → World → Prop) : Prop := ∀ p, cx.X.pan = some p → ∀ y st a w cs, p.ok y → Rel P B w0 cx.n st a w → (reps P p.R).c w (fun b => B.n ≤ b) y cs → Q (.panic [{ v := .iface p.ty (mkV p.R cs), recovered := false }]) a w

theorem sound (hk : Cok P cx) (hmix : P.follows .mixedOrders = true) : ∀ (c : Code) (B : Bs) (w0 : World) (ly : Pth → Option Lay) (Φ : Exit → St → Prop) (Q : Exit → Act → World → Prop), okC cx.n c = true → SB P cx B c → (∀ e st a w, Φ e st → Rel P B w0 cx.n st a w → Q e a w) → PanQ P B w0 cx Q →
    (∀ st a w, Wl cx ly (Sem P B w0 cx.n c Q) c Φ st → Rel P B w0 cx.n st a w → c.wpIn (Fw B.ro) 0 P Q a w) ∧ ∀ p x, hdAt cx ly (Sem P B w0 cx.n c Q) c Φ p x → Sem P B w0 cx.n c Q p x := by
  intro c
  induction c with
  | skip => intro B w0 ly Φ Q _ _ hΦ hP; exact ⟨fun st a w h hR => wpIn_skip (hΦ _ _ _ _ h hR), fun p x h => h.elim⟩
  | label l => intro B w0 ly Φ Q _ _ hΦ hP; exact ⟨fun st a w h hR => wpIn_label (hΦ _ _ _ _ h hR), fun p x h => h.elim⟩
  | exit j => intro B w0 ly Φ Q _ _ hΦ hP; exact ⟨fun st a w h hR => wpIn_exit (hΦ _ _ _ _ h hR), fun p x h => h.elim⟩
  | ret => intro B w0 ly Φ Q _ _ hΦ hP; exact ⟨fun st a w h hR => wpIn_ret (hΦ _ _ _ _ h hR), fun p x h => h.elim⟩
  | region id ops draw =>
    intro B w0 ly Φ Q hok hB hΦ hP
    simp only [okC, Bool.and_eq_true, Bool.or_eq_true] at hok
    have hkv : ∀ o ∈ ops.toList, ∀ d, o.dst = some d → B.kv d = none := fun o ho d hd => hB.kv d (List.mem_filterMap.2 ⟨o, ho, hd⟩)
    refine ⟨fun st a w h hR => ?_, fun p x h => h.elim⟩
    cases draw with
    | false =>
      simp only [Wl, regW] at h
      split at h
      · rename_i p hp
        refine wpIn_region ?_
        have := pGo_wp hk hp hkv (ops := ops.toList) (Q := Q) (fun st a w h hR => hΦ _ _ _ _ h hR) (hP p hp) ops.toList 0 st a w (by simp) (fun _ h => h) hR h
        simpa [List.range_eq_range'] using this
      · split at h
        · exact region_wp hk hR hkv hok.1 (runL_of_runG _ _ _ _ h) fun st a w h hR => hΦ _ _ _ _ h hR
        · rename_i fr hfr
          split at h
          · refine wpIn_region ?_
            have := yGo_wp hk (hB.it fr hfr) (ops := ops.toList) (Q := Q) (fun st a w h hR => hΦ _ _ _ _ h hR) ops.toList 0 st a w (by simp) hR h
            simpa [List.range_eq_range'] using this
          · exact region_wp hk hR hkv hok.1 (runL_of_runG _ _ _ _ h) fun st a w h hR => hΦ _ _ _ _ h hR
    | true => exact region_draw_wp hk hmix hR hkv hok.1 (by simpa using hok.2) (runL_of_runG _ _ _ (fun st acc => ncB ops.toList acc = true ∧ Φ .normal st) (by
        have e : (fun (st : St) (acc : List TU) => match ncB ops.toList acc with | true => Φ .normal st | false => False) = fun st acc => ncB ops.toList acc = true ∧ Φ .normal st := by
          funext st acc
          cases ncB ops.toList acc <;> simp
        rw [← e]; exact h)) fun st a w h hR => hΦ _ _ _ _ h hR
  | seq x y ihx ihy =>
    intro B w0 ly Φ Q hok hB hΦ hP
    simp only [okC, Bool.and_eq_true] at hok
    have hBx : SB P cx B x := ⟨fun t ht => hB.kv t (List.mem_append.2 (.inl ht)), hB.rf.imp (fun h => by simp only [noRF, Bool.and_eq_true] at h; exact h.1) id, hB.it, hB.pn.imp id fun h => by simp only [noRF, Bool.and_eq_true] at h; exact h.1⟩
    have hBy : SB P cx B y := ⟨fun t ht => hB.kv t (List.mem_append.2 (.inr ht)), hB.rf.imp (fun h => by simp only [noRF, Bool.and_eq_true] at h; exact h.2) id, hB.it, hB.pn.imp id fun h => by simp only [noRF, Bool.and_eq_true] at h; exact h.2⟩
    obtain ⟨y1, y2⟩ := ihy B w0 (fun p => ly (1 :: p)) Φ Q hok.2 hBy hΦ hP
    have hx : ∀ e st a w, thenX (jnK (ly [2]) (Sem P B w0 cx.n (.seq x y) Q [2]) (Wl cx (fun p => ly (1 :: p)) (fun p => Sem P B w0 cx.n (.seq x y) Q (1 :: p)) y Φ)) Φ e st → Rel P B w0 cx.n st a w → Exit.then (y.wpIn (Fw B.ro) 0 P Q) Q e a w := by
      intro e st a w h hR
      cases e with
      | normal =>
        simp only [thenX, jnK] at h
        split at h
        · obtain ⟨z, h1, h2⟩ := canK_ok h hR
          exact h1 a w h2
        · exact y1 st a w h hR
      | _ => exact hΦ _ _ _ _ h hR
    obtain ⟨x1, x2⟩ := ihx B w0 (fun p => ly (0 :: p)) (thenX (jnK (ly [2]) (Sem P B w0 cx.n (.seq x y) Q [2]) (Wl cx (fun p => ly (1 :: p)) (fun p => Sem P B w0 cx.n (.seq x y) Q (1 :: p)) y Φ)) Φ) (Exit.then (y.wpIn (Fw B.ro) 0 P Q) Q) hok.1 hBx hx hP
    refine ⟨fun st a w h hR => wpIn_seq (x1 st a w h hR), fun p z h => ?_⟩
    match p, h with
    | 0 :: p, h => exact x2 p z h
    | 1 :: p, h => exact y2 p z h
    | [2], h => exact fun a w hR => y1 _ a w h hR
    | [], h => exact h.elim
    | 2 :: _ :: _, h => exact h.elim
    | (_ + 3) :: _, h => exact h.elim
  | cond c x y ihx ihy =>
    intro B w0 ly Φ Q hok hB hΦ hP
    simp only [okC, Bool.and_eq_true] at hok
    have hBx : SB P cx B x := ⟨fun t ht => hB.kv t (List.mem_append.2 (.inl ht)), hB.rf.imp (fun h => by simp only [noRF, Bool.and_eq_true] at h; exact h.1) id, hB.it, hB.pn.imp id fun h => by simp only [noRF, Bool.and_eq_true] at h; exact h.1⟩
    have hBy : SB P cx B y := ⟨fun t ht => hB.kv t (List.mem_append.2 (.inr ht)), hB.rf.imp (fun h => by simp only [noRF, Bool.and_eq_true] at h; exact h.2) id, hB.it, hB.pn.imp id fun h => by simp only [noRF, Bool.and_eq_true] at h; exact h.2⟩
    obtain ⟨y1, y2⟩ := ihy B w0 (fun p => ly (1 :: p)) Φ Q hok.2 hBy hΦ hP
    obtain ⟨x1, x2⟩ := ihx B w0 (fun p => ly (0 :: p)) Φ Q hok.1 hBx hΦ hP
    refine ⟨fun st a w h hR => ?_, fun p z h => ?_⟩
    · simp only [Wl] at h
      split at h
      · rename_i f b hc
        obtain ⟨G, hm, he⟩ := hR.ex
        have hv := eval_ok he c
        rw [hc] at hv
        obtain ⟨cs, e1, e2⟩ := hv
        have e2 : cs = [.bool b] := e2
        subst e2
        have e1 : a.eval c = .bool b := e1
        cases b with
        | true => rw [if_pos rfl] at h; exact wpIn_cond_true e1 (x1 st a w h hR)
        | false => rw [if_neg (by simp)] at h; exact wpIn_cond_false e1 (y1 st a w h hR)
      · rename_i p q hc
        obtain ⟨G, hm, he⟩ := hR.ex
        have hv := eval_ok he c
        rw [hc] at hv
        obtain ⟨b, e1, e2, e3⟩ := hv
        cases b with
        | true => exact wpIn_cond_true e1 (x1 st a w (h.1 (e2 rfl)) hR)
        | false => exact wpIn_cond_false e1 (y1 st a w (h.2 (e3 rfl)) hR)
      · exact h.elim
    · match p, h with
      | 0 :: p, h => exact x2 p z h
      | 1 :: p, h => exact y2 p z h
      | [], h => exact h.elim
      | (_ + 2) :: _, h => exact h.elim
  | block id x ih =>
    intro B w0 ly Φ Q hok hB hΦ hP
    obtain ⟨x1, x2⟩ := ih B w0 (fun p => ly (0 :: p)) (blockX id Φ) (Exit.inBlock id Q) hok ⟨hB.kv, hB.rf, hB.it, hB.pn⟩ (by
      intro e st a w h hR
      cases e with
      | exit j =>
        simp only [blockX] at h
        simp only [Exit.inBlock]
        split at h
        · rename_i hj
          rw [if_pos (Nat.eq_of_beq_eq_true hj)]
          exact hΦ _ _ _ _ h hR
        · rename_i hj
          rw [if_neg (fun e => by rw [e] at hj; simp at hj)]
          exact hΦ _ _ _ _ h hR
      | _ => exact hΦ _ _ _ _ h hR) hP
    refine ⟨fun st a w h hR => wpIn_block (x1 st a w h hR), fun p z h => ?_⟩
    match p, h with
    | 0 :: p, h => exact x2 p z h
    | [], h => exact h.elim
    | (_ + 1) :: _, h => exact h.elim
  | scope x ih =>
    intro B w0 ly Φ Q hok hB hΦ hP
    obtain ⟨x1, x2⟩ := ih B w0 (fun p => ly (0 :: p)) (scopeX Φ) (fun e a w => match e with | .goto _ => False | e => Q e a w) hok ⟨hB.kv, hB.rf, hB.it, hB.pn⟩ (by
      intro e st a w h hR
      cases e with
      | goto l => exact h
      | _ => exact hΦ _ _ _ _ h hR) hP
    refine ⟨fun st a w h hR => wpIn_scope (x1 st a w h hR), fun p z h => ?_⟩
    match p, h with
    | 0 :: p, h => exact x2 p z h
    | [], h => exact h.elim
    | (_ + 1) :: _, h => exact h.elim
  | loop x ih =>
    intro B w0 ly Φ Q hok hB hΦ hP
    have hL : ∀ st a w, lpK (ly []) (Sem P B w0 cx.n (.loop x) Q []) st → Rel P B w0 cx.n st a w → LoopAt (Fw B.ro) P x Q a w := by
      intro st a w h hR
      unfold lpK at h
      split at h
      · obtain ⟨z, h1, h2⟩ := canK_ok h hR
        exact h1 a w h2
      · exact h.elim
    obtain ⟨x1, x2⟩ := ih B w0 (fun p => ly (0 :: p)) (thenX (lpK (ly []) (Sem P B w0 cx.n (.loop x) Q [])) Φ) (Exit.then (LoopAt (Fw B.ro) P x Q) Q) hok ⟨hB.kv, hB.rf, hB.it, hB.pn⟩ (by
      intro e st a w h hR
      cases e with
      | normal => exact hL st a w h hR
      | _ => exact hΦ _ _ _ _ h hR) hP
    refine ⟨fun st a w h hR => wp_loopAt (hL st a w h hR), fun p z h => ?_⟩
    match p, h with
    | [], h => exact fun a w hR => loopAt_round (x1 _ a w h hR)
    | 0 :: p, h => exact x2 p z h
    | (_ + 1) :: _, h => exact h.elim
  | rangeFunc g ps x y ihx ihy =>
    intro B w0 ly Φ Q hok hB hΦ hP
    simp only [okC, Bool.and_eq_true, List.all_eq_true] at hok
    obtain ⟨⟨⟨⟨ok1, ok2⟩, ok3⟩, ok4⟩, ok5⟩ := hok
    obtain ⟨hj, hfo, hkv0, hro⟩ := hB.rf.resolve_left (by simp [noRF])
    have hpn : cx.X.pan = none := hB.pn.resolve_right (by simp [noRF])
    have hP0 : ∀ (B : Bs) (w0 : World) (Q : Exit → Act → World → Prop), PanQ P B w0 cx Q := fun _ _ _ p hp => by rw [hpn] at hp; cases hp
    have hitf : ∀ fr, cx.X.itf = some fr → False := fun fr e => by
      obtain ⟨j, hj', _⟩ := (hB.it fr e).y
      rw [hj] at hj'; cases hj'
    obtain ⟨wr, hwr⟩ : ∃ wr, wr = wrs (.rangeFunc g ps x y) := ⟨_, rfl⟩
    have hw1 : ∀ t ∈ ps.toList, inN wr t = true := fun t ht => by rw [hwr]; exact mem_inN (List.mem_append.2 (.inl ht))
    have hw2 : ∀ t ∈ wrs x, inN wr t = true := fun t ht => by rw [hwr]; exact mem_inN (List.mem_append.2 (.inr (List.mem_append.2 (.inl ht))))
    have hw3 : ∀ t ∈ wrs y, inN wr t = true := fun t ht => by rw [hwr]; exact mem_inN (List.mem_append.2 (.inr (List.mem_append.2 (.inr ht))))
    constructor
    · intro st a w h hR
      simp only [Wl] at h
      rw [← hwr] at h
      split at h
      · rename_i f fr A F hg
        split at h
        · rename_i hb
          simp only [Bool.and_eq_true] at hb
          obtain ⟨hF, hlp⟩ := h
          obtain ⟨G, hm, he⟩ := hR.ex
          have hv := eval_ok he g
          rw [hg] at hv
          obtain ⟨cs, e1, gf, caps, rfl, hfun, hseq⟩ := hv
          have e1 : a.eval g = .func (.func gf) #[] caps.toArray := e1
          obtain ⟨G2, hm2, he2, hd2⟩ := gh_ok (P := P) (wr := wr) (fr := fr) (A := A) (ys := F.2) (k := 0) hm he
          unfold lpK at hlp
          split at hlp
          · rename_i l hl
            unfold canK at hlp
            split at hlp
            · rename_i E hE
              split at hlp
              · rename_i M hM
                obtain ⟨c1, c2, c3⟩ := can_relG hE hM hm2 he2
                simp only [Sem] at hlp
                rw [← hwr] at hlp
                split at hlp
                · rename_i fr2 A2 ys2 k2 hlk
                  obtain ⟨_, g0, v0, f0, e2, e3⟩ : True ∧ ∃ g v0 f, (ghS wr fr A F.2 0 st).loc rgK = some (g, v0) ∧ Tk.L.rg fr2 A2 ys2 k2 = canL f v0 := ⟨trivial, (lk_canM hM).2 _ _ hlk⟩
                  have e4 : (ghS wr fr A F.2 0 st).loc rgK = some (nx st.loc rgK, .rg fr A F.2 0) := set1_same st.loc rgK (nx st.loc rgK) (.rg fr A F.2 0)
                  rw [e4] at e2; cases e2
                  have e3 : Tk.L.rg fr2 A2 ys2 k2 = .rg fr A F.2 0 := e3
                  injection e3 with q1 q2 q3 q4
                  subst q1; subst q2; subst q4
                  have q3 := eq_of_heq q3
                  subst q3
                  exact rf_wp hj hfo hkv0 hro hw1 hR.sz (fun p hp => Nat.le_of_ble_eq_true (ok5 p hp)) hR.nd.1 (x := (E, M)) hlk hb.1 (Nat.eq_of_beq_eq_true hb.2) c1 c2 e1 hfun (S := fun b => b < w.heap.size ∧ dS B G st.loc f b) (fun b h => c3 false b (hd2 false b h.1 ⟨⟨fun e => (by cases e), h.2.1.2⟩, h.2.2⟩)) (hseq.keep (Keep.refl _ _) fun b hb h => ⟨hb, h⟩) hF hlp
                · exact hlp.elim
              · exact hlp.elim
            · exact hlp.elim
          · exact hlp.elim
        · exact h.elim
      · exact h.elim
    · intro p z h
      match p, h with
      | [], h =>
        simp only [hdAt] at h
        simp only [Sem]
        rw [← hwr] at h ⊢
        split at h
        · rename_i fr A ys k hlk
          obtain ⟨h1, h2⟩ := h
          cases hfu : ys.length - k with
          | zero => exact fun a w hR => hΦ _ _ _ _ (h2 (by omega)) hR
          | succ M =>
            intro fr' A' ys' k' yy hlk' hyy KS kv l T Z W a hkv hR
            rw [hlk] at hlk'
            injection hlk' with hlk'
            injection hlk' with q1 q2 q3 q4
            subst q1; subst q2; subst q4
            have q3 := eq_of_heq q3
            subst q3
            have hBx : ∀ W', SB P cx (Brd B KS kv l T Z W') x := fun W' => ⟨fun t ht => hkv t (hw2 t ht), .inl ok3, fun fr e => (hitf fr e).elim, .inl hpn⟩
            have hBy : ∀ W', SB P cx (Brd B KS kv l T Z W') y := fun W' => ⟨fun t ht => hkv t (hw3 t ht), .inl ok4, fun fr e => (hitf fr e).elim, .inl hpn⟩
            refine (ihx (Brd B KS kv l T Z W) w0 (fun _ => none) _ _ ok1 (hBx W) ?_ (hP0 _ _ _)).1 _ a W (Wl_mono x _ _ _ _ _ _ (fun p x h => h.elim) (fun e st h => h) (h1 yy hyy)) hR
            intro e st1 a1 W1 hΦ1 hR1
            cases e with
            | normal =>
              refine ⟨st1, hR1, fun W2 hR2 => ?_⟩
              refine (ihy (Brd B KS kv l T Z W2) w0 (fun _ => none) _ _ ok2 (hBy W2) ?_ (hP0 _ _ _)).1 _ a1 W2 (Wl_mono y _ _ _ _ _ _ (fun p x h => h.elim) (fun e st h => h) hΦ1) hR2
              intro e st3 a3 W3 hΦ3 hR3
              cases e with
              | normal =>
                simp only [rfX, lpK] at hΦ3
                split at hΦ3
                · obtain ⟨G3, b1, b2⟩ := hR3.ex
                  obtain ⟨G4, b3, b4, _⟩ := gh_ok (P := P) (wr := wr) (fr := fr) (A := A) (ys := ys) (k := k + 1) b1 b2
                  unfold canK at hΦ3
                  split at hΦ3
                  · rename_i E hE
                    split at hΦ3
                    · rename_i M' hM
                      have hR4 := can_rel (n := cx.n) (a := a3) hE hM ⟨⟨G4, b3, b4⟩, hR3.sz, hR3.nd, hR3.kp⟩
                      simp only [Sem] at hΦ3
                      rw [← hwr] at hΦ3
                      split at hΦ3
                      · rename_i fr2 A2 ys2 k2 hlk2
                        obtain ⟨g0, v0, f0, e2, e3⟩ := (lk_canM hM).2 _ _ hlk2
                        have e4 : (ghS wr fr A ys (k + 1) st3).loc rgK = some (nx st3.loc rgK, .rg fr A ys (k + 1)) := set1_same st3.loc rgK (nx st3.loc rgK) (.rg fr A ys (k + 1))
                        rw [e4] at e2; cases e2
                        have e3 : Tk.L.rg fr2 A2 ys2 k2 = .rg fr A ys (k + 1) := e3
                        injection e3 with q1 q2 q3 q4
                        subst q1; subst q2; subst q4
                        have q3 := eq_of_heq q3
                        subst q3
                        exact ⟨mkSt (E, M'), hR4, (E, M'), hlk2, by rw [show M = ys2.length - (k + 1) by omega]; exact hΦ3, rfl⟩
                      · exact hΦ3.elim
                    · exact hΦ3.elim
                  · exact hΦ3.elim
                · exact hΦ3.elim
              | ret => exact ⟨st3, hR3, fun a w hR => hΦ _ _ _ _ hΦ3 hR⟩
              | exit j => exact ⟨st3, hR3, fun a w hR => hΦ _ _ _ _ hΦ3 hR⟩
              | _ => exact hΦ3.elim
            | _ => exact hΦ1.elim
        · exact h.elim
      | _ :: _, h => exact h.elim
  | _ => intro B w0 ly Φ Q _ _ hΦ hP; exact ⟨fun st a w h => h.elim, fun p x h => h.elim⟩

end

/-! ### What is to be shown of a function -/
def retΦ (cx : Cx) (fn : Func) (al : Bool) (R : T) (y : R.den) (e : Exit) (st : St) : Prop := match e with
  | .ret => retOK cx al fn.results.toList R y st
  | .normal => retOK cx al fn.results.toList R y st
  | _ => False

def LyL : List (Pth × Lay) → Pth → Option Lay
  | [], _ => none
  | (q, l) :: r, p => match List.beq q p with | true => some l | false => LyL r p

def BodyL (cx : Cx) (ly : List (Pth × Lay)) (fn : Func) (code : Code) (c : Con) : Prop := ∀ x, c.A.wf x → c.pre x → ∀ Λ : Pth → Lst → Prop, (∀ p l, hdAt cx (LyL ly) Λ code (retΦ cx fn c.al c.R (c.F x)) p l → Λ p l) →
  Wl cx (LyL ly) Λ code (retΦ cx fn c.al c.R (c.F x)) (mkSt (argE c.A x 0, []))

/-- Marks that nothing waits behind. -/
theorem leaves_marks {P : Program} {B : Bs} {w0 : World} {fn : Func} {tmps : Array Value} {R : Ending → World → Prop} {st : St} (hj : B.j = none) (hfo : ∀ b, ¬ (B.fo b ∨ B.kb b)) (fin : ∀ w, (∃ G, MRel P B G st.loc w w0 ∧ ∀ t, ERep P B G st.loc w (st.env t) (tmps.getD t undef)) → ∃ v, (results fn tmps).run P w = .ok v w ∧ R (.returned v) w) :
    ∀ (rs : List Nat) (w : World), rs.Nodup → (∀ r ∈ rs, B.n ≤ r ∧ w.heap[r]? = some (.deferred (some []))) → (∃ G, MRel P B G st.loc w w0 ∧ ∀ t, ERep P B G st.loc w (st.env t) (tmps.getD t undef)) → LeavesInM Fence.wide 0 P fn tmps R (rs.map fun r => ⟨.collected r, #[]⟩) .returning w
  | [], w, _, _, h => fin w h
  | r :: rs, w, hn, hr, ⟨G, hm, he⟩ => by
    obtain ⟨h1, h2⟩ := hr r (by simp)
    refine ⟨by simp, .inl ⟨r, _, rfl, run_takeDeferred h2, ?_⟩⟩
    have hne : ∀ b, isC w b → b ≠ r := fun b hb => isC_ne hb h2 (fun _ _ _ h => by cases h)
    obtain ⟨r1, r2⟩ := hm.re (w' := w.putObj r (.deferred none)) hj (fo := B.fo) (kb := B.kb) (tv := B.tv) (kv := B.kv) (ro := B.ro) (lb := B.lb) (Nat.le_trans hm.lbd (by simp)) rfl rfl rfl (by simp) (fun b hb _ => World.putObj_heap_other (hne b hb)) (fun b hb => World.putObj_heap_other (by omega)) (fun b _ h => (hfo b (.inl h)).elim) (fun b h => (hfo b h).elim) (fun b h => (hfo b h).elim)
    have hnd := List.nodup_cons.1 hn
    refine leaves_marks hj hfo fin rs _ hnd.2 (fun q hq => ⟨(hr q (by simp [hq])).1, ?_⟩) ⟨G, r1, fun t => r2 (he t)⟩
    exact (World.putObj_heap_other fun e => hnd.1 (by rw [← e]; exact hq)).trans (hr q (by simp [hq])).2

theorem conF_ofL {P : Program} {cx : Cx} {ly : List (Pth × Lay)} (hk : Cok P cx) (hmix : P.follows .mixedOrders = true) (hit : cx.X.itf = none) (hpn : cx.X.pan = none) {f : FuncId} {fn : Func} {code : Code} {c : Con} (hf : P.funcs[f]? = some fn) (hb : fn.body = some code) (hn : fn.ntmps = cx.n)
    (hA : (isTup c.A && Nat.ble (arity c.A) cx.n) = true) (hok : okC cx.n code = true) (h : BodyL cx ly fn code c) : ConF P f c := by
  intro w S x vs hv hpre
  rw [Bool.and_eq_true] at hA
  have hle := Nat.le_of_ble_eq_true hA.2
  let B : Bs := { n := w.heap.size, S }
  let G : Nat → Gh := fun _ => gh undef none
  obtain ⟨i1, i2, i3⟩ := argE_ok (S' := dS B G (mkLoc []) false) (fun b hb => ⟨⟨fun e => (by cases e), .inr hb⟩, fun k g l hk => by simp [mkLoc, lk] at hk, fun h => h⟩) c.A x vs 0 hA.1 hv
  have hR : Rel P B w cx.n (mkSt (argE c.A x 0, [])) { tmps := vs.toArray ++ Array.replicate (fn.ntmps - vs.toArray.size) undef, defers := [] } w := by
    refine ⟨⟨G, ⟨fun _ => Below.refl _ _, Nat.le_refl _, fun k g l hk => by simp [mkSt, mkLoc, lk] at hk, fun k k' g g' l l' b hk => by simp [mkSt, mkLoc, lk] at hk, ⟨fun b h => by rcases h with h | h <;> exact h.elim, fun k g l b hk => by simp [mkSt, mkLoc, lk] at hk⟩, Nat.zero_le _⟩, fun t => ?_⟩, by simp; omega, ⟨Marks.nil _ _, fun _ => rfl⟩, fun t v e => by cases e⟩
    show ERep P B G (mkLoc []) w (match lk (argE c.A x 0) t with | some v => v | none => .any) _
    split
    · rename_i V e
      obtain ⟨_, v, f', a, y, cs, j1, rfl, rfl, j4, rfl⟩ := i3 t V e
      refine ⟨cs, ?_, j4⟩
      have hlt : t < vs.length := (List.getElem?_eq_some_iff.1 j1).1
      have j1 : vs[t]? = some (mkV a cs) := j1
      have e1 : (vs.toArray ++ Array.replicate (fn.ntmps - vs.toArray.size) undef)[t]? = some (mkV a cs) := by
        rw [Array.getElem?_append_left (by simpa using hlt)]
        simpa using j1
      simp only [Array.getD_eq_getD_getElem?, e1, Option.getD_some]
    · trivial
  have hfo : ∀ b, ¬ (B.fo b ∨ B.kb b) := fun b h => by rcases h with h | h <;> exact h.elim
  obtain ⟨s1, s2⟩ := sound hk hmix code B w (LyL ly) (retΦ cx fn c.al c.R (c.F x)) (relPost P B w cx.n (retΦ cx fn c.al c.R (c.F x))) hok ⟨fun _ _ => rfl, .inr ⟨rfl, hfo, fun _ => rfl, rfl⟩, fun fr e => (by rw [hit] at e; cases e), .inl hpn⟩ (fun e st a w h hR => ⟨st, h, hR⟩) fun p hp => by rw [hpn] at hp; cases hp
  refine (callsIn_wide (n := 0)).1 (callsIn_of_wp_marks hf hb trivial (wpIn_mono (s1 _ _ _ (h x i2 hpre _ s2) hR) ?_))
  rintro e a w' ⟨st, hst, hR⟩
  have fin : retOK cx c.al fn.results.toList c.R (c.F x) st → LeavesInM Fence.wide 0 P fn a.tmps (fun e w' => ∃ rs bs, e = .returned (mkRes rs) ∧ (reps P c.R).v w' (fun b => (w.heap.size ≤ b ∨ (c.al = true ∧ S b)) ∧ b ∉ bs) (c.F x) rs bs ∧ bs.Nodup ∧ (∀ b ∈ bs, w.heap.size ≤ b) ∧ Below w.heap.size w w') a.defers .returning w' := by
    intro h
    unfold retOK at h
    split at h
    · rename_i vs' e
      obtain ⟨rs, e1, e2, e3⟩ := hR.nd.1
      rw [e1]
      refine leaves_marks (B := B) (w0 := w) (st := st) rfl hfo (fun w2 ⟨G', hm, he⟩ => ?_) rs w' e2 e3 hR.ex
      obtain ⟨vals, h1, h2⟩ := retVs_run (a := a) hk hm he _ _ e
      obtain ⟨bs, h3, h4, h5⟩ := retChk_ok hk hm h2 h
      exact ⟨_, results_run h1, vals, bs, rfl, h3, h4, h5, hm.low rfl⟩
    · exact h.elim
  cases e with
  | ret => exact fin hst
  | normal => exact fin hst
  | _ => exact hst.elim

theorem lawX {P : Program} {Γ : List (Nat × Con)} {Θ : List (Nat × T)} {n : Nat} {f : FuncId} {fn : Func} {c : Con} (ly : List (Pth × Lay)) (h1 : ConsOK P Γ) (h2 : gaB P Γ = true) (h3 : thB P Θ = true) (X : Xtr) (hX : XOK P X) (hmix : P.follows .mixedOrders = true) (hf : P.funcs[f]? = some fn) (hb : fnB fn c.A n = true)
    (h : BodyL ⟨Γ, Θ, n, X⟩ ly fn (codeOf fn) c) (hit : X.itf = none := by rfl) (hsq : c.R.isSeq = false := by rfl) (hpn : X.pan = none := by rfl) : ConOK P f c := by
  simp only [fnB, Bool.and_eq_true] at hb
  obtain ⟨⟨⟨⟨b1, b2⟩, b3⟩, b4⟩, b5⟩ := hb
  refine ConOK.f (conF_ofL (cok_ofX h1 h2 h3 hX) hmix hit hpn hf (code := codeOf fn) ?_ (Nat.eq_of_beq_eq_true b2) (by rw [b3, b4]; rfl) b5 h) hsq
  unfold codeOf
  cases h : fn.body with
  | none => rw [h] at b1; cases b1
  | some c => rfl

theorem xok0 {P : Program} (X : Xtr) (h3 : InsOK P X.inp := by trivial) (h4 : allB (arrB P) X.arrs = true := by kernel_rfl) (h1 : X.U = [] := by rfl) (h2 : X.mul = [] := by rfl) (h5 : PansOK P X.pcs := by trivial) (h6 : ∀ p, X.pan = some p → ifcB P p.ty = true := by intro p h; cases h) (h7 : NilsOK P X.nilc := by trivial) : XOK P X :=
  ⟨fun _ h => (by rw [h1] at h; cases h), fun _ h => (by rw [h2] at h; cases h), insOK_lk h3, arrs_ok h4, pansOK_lk h5, fun p hp => ifcB_ok (h6 p hp), nilsOK_lk h7⟩

theorem lawL {P : Program} {Γ : List (Nat × Con)} {Θ : List (Nat × T)} {n : Nat} {f : FuncId} {fn : Func} {c : Con} (ly : List (Pth × Lay)) (h1 : ConsOK P Γ) (h2 : gaB P Γ = true) (h3 : thB P Θ = true) (hmix : P.follows .mixedOrders = true) (hf : P.funcs[f]? = some fn) (hb : fnB fn c.A n = true)
    (h : BodyL ⟨Γ, Θ, n, noX⟩ ly fn (codeOf fn) c) (hsq : c.R.isSeq = false := by rfl) : ConOK P f c := lawX ly h1 h2 h3 noX noX_ok hmix hf hb h rfl hsq

/-! ### Iterators -/
def itΦ (e : Exit) (st : St) : Prop := match e with
  | .ret => (match st.loc itK with | some (_, .it _ ys k) => k = ys.length | some (_, .itx) => True | _ => False)
  | .normal => (match st.loc itK with | some (_, .it _ ys k) => k = ys.length | some (_, .itx) => True | _ => False)
  | _ => False

/-- What is to be shown of an iterator's code: z are the captured data. -/
def BodyIt (cx : Cx) (ly : List (Pth × Lay)) (code : Code) (A a : T) (F : A.den → Prop × List a.den) : Prop := ∀ z, A.wf z → (F z).1 → ∀ Λ : Pth → Lst → Prop, (∀ p l, hdAt cx (LyL ly) Λ code itΦ p l → Λ p l) →
  Wl cx (LyL ly) Λ code itΦ (mkSt ((0, .yld) :: argE A z 1, [(itK, .it a (F z).2 0)]))

theorem itOK_ofL {P : Program} {cx : Cx} {ly : List (Pth × Lay)} (hk : Cok P cx) (hmix : P.follows .mixedOrders = true) {fr : Bool} (hit : cx.X.itf = some fr) (hpn : cx.X.pan = none) {f : FuncId} {fn : Func} {code : Code} {A a : T} {F : A.den → (T.seq fr a).den} (hf : P.funcs[f]? = some fn) (hb : fn.body = some code) (hn : fn.ntmps = cx.n) (hres : fn.results.toList = [])
    (hA : (isTup A && Nat.ble (arity A + 1) cx.n) = true) (hok : (okC cx.n code && noRF code) = true) (h : BodyIt cx ly code A a F) : ItOK P f fr A a F := by
  intro w S z caps hv hp W hkW l j hY hJ0
  rw [Bool.and_eq_true] at hA hok
  have hle := Nat.le_of_ble_eq_true hA.2
  let B : Bs := { n := W.heap.size, S := fun b => b < w.heap.size ∧ S b, lo := false, j := some j, l := l, ys := ⟨a, (F z).2⟩ }
  let G : Nat → Gh := fun _ => gh undef none
  let M : List (Nat × Tk.L) := [(itK, .it a (F z).2 0)]
  have hM : ∀ k g l, mkLoc M k = some (g, l) → k = itK ∧ l = .it a (F z).2 0 := by
    intro k g l hk
    have := (mkLoc_some hk).2
    simp only [M, lk] at this
    split at this
    · rename_i e; cases this; exact ⟨(Nat.eq_of_beq_eq_true e).symm, rfl⟩
    · cases this
  have hv' : (reps P A).v W (fun b => b < w.heap.size ∧ S b) z caps [] := v_keep A hv hkW fun b hb h => ⟨hb, h⟩
  obtain ⟨i1, i2, i3⟩ := argE_ok (S' := dS B G (mkLoc M) false) (fun b hb => ⟨⟨fun e => (by cases e), .inr hb⟩, fun k g l hk _ e => by
    obtain ⟨rfl, rfl⟩ := hM k g l hk
    exact e, fun h => h⟩) A z caps 1 hA.1 hv'
  have hfo : ∀ b, ¬ (B.fo b ∨ B.kb b) := fun b h => by rcases h with h | h <;> exact h.elim
  have hR : Rel P B w cx.n (mkSt ((0, .yld) :: argE A z 1, M)) { tmps := ((#[Value.func (.yield l) #[] #[]] : Array Value) ++ caps.toArray) ++ Array.replicate (fn.ntmps - ((#[Value.func (.yield l) #[] #[]] : Array Value) ++ caps.toArray).size) undef, defers := [] } W := by
    refine ⟨⟨G, ⟨fun h => (by cases h), Nat.le_refl _, fun k g l' hk => ?_, fun k k' g g' l l' b hk hk' => ?_, ⟨fun b h => (hfo b h).elim, fun k g l b hk _ e h => hfo b h⟩, Nat.zero_le _⟩, fun t => ?_⟩, by simp; omega, ⟨Marks.nil _ _, fun _ => rfl⟩, fun t v e => by cases e⟩
    · obtain ⟨rfl, rfl⟩ := hM k g l' hk
      exact ⟨rfl, rfl, fun b h => h.elim, fun b h => h.elim, j, rfl, j.cl _ _ _ _ _ _ _ hJ0 (Grow.refl _ _) (fun b h => .inr h.1) fun b h => h.elim⟩
    · intro _ _ _ _
      rw [(hM k g l hk).1, (hM k' g' l' hk').1]
    · show ERep P B G (mkLoc M) W (match lk ((0, .yld) :: argE A z 1) t with | some v => v | none => .any) _
      simp only [lk]
      cases t with
      | zero =>
        have e1 : (((#[Value.func (.yield l) #[] #[]] : Array Value) ++ caps.toArray) ++ Array.replicate (fn.ntmps - ((#[Value.func (.yield l) #[] #[]] : Array Value) ++ caps.toArray).size) undef)[0]? = some (Value.func (.yield l) #[] #[]) := by
          rw [Array.getElem?_append_left (by simp), Array.getElem?_append_left (by simp)]
          rfl
        show _ = Value.func (.yield l) #[] #[]
        simp only [Array.getD_eq_getD_getElem?, e1, Option.getD_some]
      | succ t =>
        simp only [show Nat.beq 0 (t + 1) = false from rfl]
        split
        · rename_i V e
          obtain ⟨_, v, f', a', y, cs, j1, rfl, rfl, j4, rfl⟩ := i3 (t + 1) V e
          refine ⟨cs, ?_, j4⟩
          have j1 : caps[t]? = some (mkV a' cs) := by simpa using j1
          have hlt : t < caps.length := (List.getElem?_eq_some_iff.1 j1).1
          have e1 : (((#[Value.func (.yield l) #[] #[]] : Array Value) ++ caps.toArray) ++ Array.replicate (fn.ntmps - ((#[Value.func (.yield l) #[] #[]] : Array Value) ++ caps.toArray).size) undef)[t + 1]? = some (mkV a' cs) := by
            rw [Array.getElem?_append_left (by simp; omega), Array.getElem?_append_right (by simp)]
            simpa using j1
          simp only [Array.getD_eq_getD_getElem?, e1, Option.getD_some]
        · trivial
  have hIB : ItB P B fr := ⟨rfl, hfo, fun _ => rfl, rfl, rfl, j, rfl, hY⟩
  obtain ⟨s1, s2⟩ := sound hk hmix code B w (LyL ly) itΦ (relPost P B w cx.n itΦ) hok.1 ⟨fun _ _ => rfl, .inl hok.2, fun fr' e => (by rw [hit] at e; cases e; exact hIB), .inl hpn⟩ (fun e st a w h hR => ⟨st, h, hR⟩) fun p hp => by rw [hpn] at hp; cases hp
  refine (callsIn_wide (n := 0)).1 (callsIn_of_wp_marks hf hb trivial (wpIn_mono (s1 _ _ _ (h z i2 hp _ s2) hR) ?_))
  rintro e a' w' ⟨st, hst, hR⟩
  have fin : (match st.loc itK with | some (_, .it _ ys k) => k = ys.length | some (_, .itx) => True | _ => False) → LeavesInM Fence.wide 0 P fn a'.tmps (fun e W' => (∃ v, e = .returned v) ∧ ∃ T Z, (∀ b, T b → W.heap.size ≤ b) ∧ (∀ b, Z b → W.heap.size ≤ b) ∧ (j.J (F z).2.length T Z W' ∨ j.Jx T Z W')) a'.defers .returning w' := by
    intro h
    rw [hR.nd.2 rfl]
    refine ⟨mkRes [], results_run (by rw [hres]; rfl), ⟨_, rfl⟩, ?_⟩
    obtain ⟨G', hm, he⟩ := hR.ex
    split at h
    · rename_i g A' ys k e
      obtain ⟨_, hys, hx, hz, j', hj', hJ⟩ := hm.loc itK _ _ e
      cases hj'
      have hys : (⟨a, (F z).2⟩ : Σ A : T, List A.den) = ⟨A', ys⟩ := hys
      cases hys
      exact ⟨_, _, fun b hb => hb.1, fun b hb => (hz b hb).2.1, .inl (h ▸ hJ)⟩
    · rename_i g e
      obtain ⟨_, hx, hz, j', hj', hJ⟩ := hm.loc itK _ _ e
      cases hj'
      exact ⟨_, _, fun b hb => hb.1, fun b hb => (hz b hb).2.1, .inr hJ⟩
    · exact h.elim
  cases e with
  | ret => exact fin hst
  | normal => exact fin hst
  | _ => exact hst.elim

/-- An iterator's Bools, in one. -/
def itB (fn : Func) (A : T) (n : Nat) : Bool := fn.body.isSome && Nat.beq fn.ntmps n && (match fn.results.toList with | [] => true | _ => false) && isTup A && Nat.ble (arity A + 1) n && okC n (codeOf fn) && noRF (codeOf fn)

theorem lawIt {P : Program} {Γ : List (Nat × Con)} {Θ : List (Nat × T)} {n : Nat} {f : FuncId} {fn : Func} {A a : T} {fr : Bool} {F : A.den → (T.seq fr a).den} {pre : A.den → Prop} (ly : List (Pth × Lay)) (h1 : ConsOK P Γ) (h2 : gaB P Γ = true) (h3 : thB P Θ = true) (X : Xtr) (hX : XOK P X) (hmix : P.follows .mixedOrders = true) (hf : P.funcs[f]? = some fn) (hb : itB fn A n = true)
    (h : BodyIt ⟨Γ, Θ, n, X⟩ ly (codeOf fn) A a F) (hit : X.itf = some fr := by rfl) (hpn : X.pan = none := by rfl) : ConOK P f { A, R := .seq fr a, pre, F } := by
  simp only [itB, Bool.and_eq_true] at hb
  obtain ⟨⟨⟨⟨⟨⟨b1, b2⟩, b0⟩, b3⟩, b4⟩, b5⟩, b6⟩ := hb
  refine ⟨fun e => (by cases e), fun fr' a' e => ?_⟩
  cases e
  refine itOK_ofL (cok_ofX h1 h2 h3 hX) hmix hit hpn hf (code := codeOf fn) ?_ (Nat.eq_of_beq_eq_true b2) ?_ (by rw [b3, b4]; rfl) (by rw [b5, b6]; rfl) h
  · unfold codeOf
    cases h : fn.body with
    | none => rw [h] at b1; cases b1
    | some c => rfl
  · split at b0
    · assumption
    · cases b0

end Go.Tk
