/- The engine, part O: abstract states and the states of a frame; regions. No conditions. -/
import Derived.Test.YtmedjckknalpbaaEngN
import Derived.OrdersIn
set_option linter.unusedSimpArgs false
set_option linter.unusedVariables false
namespace Go.Tk
open Go Go.RowKit

/-- The deferred calls of a frame: marks of ranges over functions, behind which nothing waits. -/
def Marks (n : Nat) (ds : List Deferred) (w : World) : Prop := ∃ rs : List Nat, ds = rs.map (fun r => ⟨.collected r, #[]⟩) ∧ rs.Nodup ∧ ∀ r ∈ rs, n ≤ r ∧ w.heap[r]? = some (.deferred (some []))

structure Rel (P : Program) (B : Bs) (w0 : World) (n : Nat) (st : St) (a : Act) (w : World) : Prop where
  ex : ∃ G, MRel P B G st.loc w w0 ∧ ∀ t, ERep P B G st.loc w (st.env t) (a.tmps.getD t undef)
  sz : a.tmps.size = n
  nd : Marks B.n a.defers w ∧ (B.j.isSome = true → a.defers = [])
  kp : ∀ t v, B.kv t = some v → a.tmps.getD t undef = v

theorem Marks.oth {n : Nat} {ds : List Deferred} {w w' : World} (h : Marks n ds w) (ho : ∀ b o, w.heap[b]? = some o → ¬ isC w b → w'.heap[b]? = some o) : Marks n ds w' := by
  obtain ⟨rs, e, h1, h2⟩ := h
  exact ⟨rs, e, h1, fun r hr => ⟨(h2 r hr).1, ho _ _ (h2 r hr).2 fun ⟨_, _, _, e⟩ => by rw [(h2 r hr).2] at e; cases e⟩⟩

theorem Marks.nil (n : Nat) (w : World) : Marks n [] w := ⟨[], rfl, by simp, by simp⟩

/-- The fence of frames that are of a round, or of none. -/
def Fw (ro : Option Nat) : Fence := { fn := fun _ => True, depth := none, alive := false, round := ro }

theorem fenced_Fw (P : Program) (ro : Option Nat) : Machine.fenced P (Fw ro) = Machine.fenced P Fence.wide := rfl

theorem upon_in {P : Program} {o : Oper} {a : Act} {next : Act → World → Prop} {Q : Exit → Act → World → Prop} {ro : Option Nat} {n : Nat} {r : Result Next} (h : o.upon P a next Q r) : o.uponIn (Fw ro) n P a next Q r := by
  cases r with
  | halt x w => cases x <;> simp only [Oper.upon] at h <;> exact h
  | ok x w =>
    cases x <;> simp only [Oper.upon] at h
    case value v => exact h
    case skip => exact h
    case defer d => exact h
    case enter f args =>
      have := (callsIn_wide (n := n - 1)).2 h
      exact ⟨fun e => (by cases e), this⟩
    case row row args =>
      refine ⟨fun e => (by cases e), fun c cs _ => ?_⟩
      obtain ⟨v, w', hR, hs⟩ := h c cs
      exact ⟨v, w', hR, stepsIn_wide.2 hs⟩

section
variable {P : Program} {B : Bs} {w0 : World} {cx : Cx}

theorem eval_ok {G : Nat → Gh} {st : St} {a : Act} {w : World} (h : ∀ t, ERep P B G st.loc w (st.env t) (a.tmps.getD t undef)) (x : Operand) : ERep P B G st.loc w (st.eval x) (a.eval x) := by
  cases x with
  | tmp t => exact h t
  | const v => exact constV_ok v
  | global g => trivial
  | func f => exact ⟨[], rfl, rfl, rfl⟩

theorem put_size (a : Act) (d : Option Nat) (v : Value) : (a.put d v).tmps.size = a.tmps.size := by
  cases d <;> simp [Act.put]

theorem put_defers (a : Act) (d : Option Nat) (v : Value) : (a.put d v).defers = a.defers := by
  cases d <;> rfl

theorem put_get {a : Act} {d : Option Nat} {v : Value} (hd : ∀ k, d = some k → k < a.tmps.size) {G : Nat → Gh} {m : Mem} {w : World} {env : Nat → V} {V : V} (hv : d ≠ none → ERep P B G m w V v) (h : ∀ t, ERep P B G m w (env t) (a.tmps.getD t undef)) (t : Nat) : ERep P B G m w (putEnv env d V t) ((a.put d v).tmps.getD t undef) := by
  cases d with
  | none => exact h t
  | some k =>
    have hk := hd k rfl
    by_cases e : k = t
    · subst e
      rw [putEnv_same]
      simp only [Act.put]
      have : (a.tmps.setIfInBounds k v).getD k undef = v := by simp [hk]
      rw [this]
      exact hv (by simp)
    · rw [putEnv_ne (by simpa using e)]
      have : ((a.put (some k) v).tmps.getD t undef) = a.tmps.getD t undef := by
        simp [Act.put, Array.getElem?_setIfInBounds_ne e]
      rw [this]; exact h t

theorem wantA_ok {ops : List Oper} {o : Oper} {st : St} {a : Act} {w : World} (hR : Rel P B w0 cx.n st a w) {b : Bool} (h : wantA ops o st = some b) : Region.wanted o (yielded ops.toArray a.tmps) = b := by
  unfold wantA at h
  unfold Region.wanted
  cases hg : o.guard with
  | none => rw [hg] at h; cases h; rfl
  | some jb =>
    obtain ⟨j, b'⟩ := jb
    rw [hg] at h
    simp only at h ⊢
    split at h
    · cases h
    · rename_i d hd
      split at h
      · rename_i f x hx
        cases h
        obtain ⟨G, _, he⟩ := hR.ex
        have := he d
        rw [hx] at this
        obtain ⟨cs, e1, e2⟩ := this
        have e2 : cs = [.bool x] := e2
        subst e2
        have e1 : a.tmps.getD d undef = .bool x := e1
        have e3 : a.tmps[d]? = some (.bool x) := by
          rcases Nat.lt_or_ge d a.tmps.size with hlt | hge
          · simp [hlt] at e1 ⊢; exact e1
          · simp [Array.getElem?_eq_none hge, undef] at e1
        have : yielded ops.toArray a.tmps j = some x := by
          unfold yielded
          rw [lget_eq] at hd
          simp [hd, e3]
        rw [this]
        cases x <;> cases b' <;> rfl
      · rename_i hx
        cases h
        obtain ⟨G, _, he⟩ := hR.ex
        have e1 : a.tmps.getD d undef = .tuple #[] := by have := he d; rw [hx] at this; exact this
        have : yielded ops.toArray a.tmps j = none := by
          unfold yielded
          rw [lget_eq] at hd
          rcases Nat.lt_or_ge d a.tmps.size with hlt | hge
          · have e3 : a.tmps[d]? = some (.tuple #[]) := by simp [hlt] at e1 ⊢; exact e1
            simp [hd, e3]
          · simp [hd, Array.getElem?_eq_none hge]
        rw [this]
        cases b' <;> rfl
      · cases h

theorem wfV_ok {G : Nat → Gh} {m : Mem} {w : World} {V : V} {v : Value} (h : ERep P B G m w V v) : wfV V := by
  cases V with
  | d f t x => obtain ⟨cs, _, hc⟩ := h; exact c_wf t hc
  | _ => trivial

theorem wfU_ok {G : Nat → Gh} {m : Mem} {w : World} {u : List (Nat × Nat × L)} (h : MRel P B G (putLoc m u) w w0) : wfU u := by
  unfold wfU
  split
  · rename_i k g f t xs
    have hl := h.loc k g (.sl f t xs) (set1_same ..)
    unfold LRep at hl
    rcases hl with ⟨_, rfl, _⟩ | ⟨b, off, cap, cur, e, h1, h2, h3, h4, h5, h6, h7, h8⟩
    · exact ⟨Nat.zero_le _, fun x hx => by simp at hx⟩
    · exact ⟨h6.1, repL_all (fun x cs h => c_wf t h) _ _ h8⟩
  · trivial

theorem wfE_ok {G : Nat → Gh} {m : Mem} {w w' : World} {o : Oper} {e : Eff} {v : Value} (h : Post P B w0 G m w e v w') : wfE o e := by
  obtain ⟨G', h1, h2, h3⟩ := h
  unfold wfE
  split
  · exact wfV_ok h3
  · exact wfV_ok h3
  · split
    · exact ⟨wfV_ok h3, wfU_ok h1⟩
    · trivial
  · trivial

theorem sub_rst (T : List Nat) (m : Mem) : Sub (rst T m) m := by
  intro k x h
  unfold rst at h
  split at h
  · exact h
  · cases h

theorem put_kp {a : Act} {d : Option Nat} {v : Value} (hd : ∀ k, d = some k → B.kv k = none) (h : ∀ t v, B.kv t = some v → a.tmps.getD t undef = v) : ∀ t u, B.kv t = some u → (a.put d v).tmps.getD t undef = u := by
  intro t u hu
  cases d with
  | none => exact h t u hu
  | some k =>
    have hne : k ≠ t := by
      rintro rfl
      rw [hd k rfl] at hu; cases hu
    have : ((a.put (some k) v).tmps.getD t undef) = a.tmps.getD t undef := by
      simp [Act.put, Array.getElem?_setIfInBounds_ne hne]
    rw [this]; exact h t u hu

theorem stepE_upon (hk : Cok P cx) {st : St} {a : Act} {w : World} (hR : Rel P B w0 cx.n st a w) {o : Oper} (hkv : ∀ d, o.dst = some d → B.kv d = none) {e : Eff} (h : stepE cx o st = some e) (hpre : e.pre) {next : Act → World → Prop} {Q : Exit → Act → World → Prop} (hn : ∀ a' w', Rel P B w0 cx.n (st.upd o e) a' w' → wfE o e → next a' w') :
    o.upon P a next Q ((execOp a.eval o).run P w) := by
  unfold stepE at h
  split at h
  · rename_i hdst
    split at h
    · rename_i e2 hact
      split at h
      · cases h
        obtain ⟨G, hm, he⟩ := hR.ex
        refine act_upon hk hm (sub_rst _ _) (fun d hd => ?_) hact hpre (eval_ok he) ?_
        · unfold rst touched
          rw [hd]
          simp only [mb_cons, decide_true, Bool.true_or]
        · intro v w' hp
          refine hn _ _ ?_ (wfE_ok hp)
          obtain ⟨G', h1, h2, h3⟩ := hp
          refine ⟨⟨G', h1, fun t => put_get (fun k hk' => ?_) (fun _ => h3) (fun t => (he t).ext h2) t⟩, (put_size ..).trans hR.sz, ?_, put_kp hkv hR.kp⟩
          · rw [hk'] at hdst
            rw [hR.sz]
            exact Nat.le_of_ble_eq_true hdst
          · rw [put_defers]; exact ⟨hR.nd.1.oth h2.oth, hR.nd.2⟩
      · cases h
    · cases h
  · cases h

theorem skip_rel {st : St} {a : Act} {w : World} (hR : Rel P B w0 cx.n st a w) {o : Oper} (hkv : ∀ d, o.dst = some d → B.kv d = none) (hd : ∀ d, o.dst = some d → d < cx.n) : Rel P B w0 cx.n (st.upd o skipE) (a.put o.dst undef) w := by
  obtain ⟨G, hm, he⟩ := hR.ex
  exact ⟨⟨G, hm, put_get (fun k hk => by rw [hR.sz]; exact hd k hk) (fun _ => rfl) he⟩, (put_size ..).trans hR.sz, by rw [put_defers]; exact hR.nd, put_kp hkv hR.kp⟩

theorem upon_ex {o : Oper} {a : Act} {next : Act → World → Prop} {r : Result Next} (h : o.upon P a next (fun _ _ _ => False) r) : ∃ a' w', next a' w' := by
  cases r with
  | ok n w =>
    cases n <;> simp only [Oper.upon] at h
    case value v => exact ⟨_, _, h⟩
    case skip => exact ⟨_, _, h⟩
    case defer d => exact ⟨_, _, h⟩
    case enter f args =>
      obtain ⟨e, w', fr, hr, _⟩ := h []
      cases e with
      | returned v => exact ⟨_, _, hr⟩
      | panicked c => exact hr.elim
      | outgrown => obtain ⟨_, _, hr⟩ := hr; exact hr.elim
    case row row args =>
      obtain ⟨v, w', hr, _⟩ := h default []
      exact ⟨_, _, hr⟩
  | halt x w => cases x <;> simp only [Oper.upon] at h

/-- An abstract state that some frame is in. -/
def Real (P : Program) (B : Bs) (w0 : World) (n : Nat) (st : St) : Prop := ∃ a w, Rel P B w0 n st a w

theorem real_yop (hk : Cok P cx) {ops : List Oper} {st : St} {o : Oper} (hkv : ∀ d, o.dst = some d → B.kv d = none) {e : Eff} {tu : TU} (hR : Real P B w0 cx.n st) (hy : yop cx ops o e st tu) : Real P B w0 cx.n (st.upd o e) ∧ wfE o e := by
  obtain ⟨a, w, hR⟩ := hR
  rcases hy with ⟨_, h1, h2, _⟩ | ⟨_, rfl, _, hd⟩
  · obtain ⟨a', w', h3, h4⟩ := upon_ex (stepE_upon hk hR hkv h1 h2 (next := fun a' w' => Rel P B w0 cx.n (st.upd o e) a' w' ∧ wfE o e) (fun a' w' h h' => ⟨h, h'⟩))
    exact ⟨⟨a', w', h3⟩, h4⟩
  · refine ⟨⟨_, _, skip_rel hR hkv hd⟩, ?_⟩
    unfold wfE
    split
    · trivial
    · trivial
    · split
      · exact ⟨trivial, trivial⟩
      · trivial
    · trivial

theorem stepE_nd {o : Oper} {st : St} {e : Eff} (h : stepE cx o st = some e) : ∀ c, o.op ≠ .defer c := by
  intro c e1
  unfold stepE at h
  split at h
  · split at h
    · rename_i hact
      unfold act at hact
      rw [e1] at hact
      cases hact
    · cases h
  · cases h

theorem yop_wp (hk : Cok P cx) {ops : List Oper} {st : St} {o : Oper} (hkv : ∀ d, o.dst = some d → B.kv d = none) {e : Eff} {tu : TU} {a : Act} {w : World} (hR : Rel P B w0 cx.n st a w) (hy : yop cx ops o e st tu) {i : Nat} (hi : ops.toArray[i]? = some o) {K : Act → World → Prop} {Q : Exit → Act → World → Prop} (hn : ∀ a' w', Rel P B w0 cx.n (st.upd o e) a' w' → K a' w') : wpOpIn (Fw B.ro) 0 P ops.toArray Q i K a w := by
  unfold wpOpIn
  rw [hi]
  simp only
  rcases hy with ⟨h0, h1, h2, _⟩ | ⟨h0, rfl, _, hd⟩
  · rw [wantA_ok hR h0]
    refine ⟨fun _ _ => trivial, ?_⟩
    rw [Oper.semAt_eq _ _ _ (stepE_nd h1)]
    exact upon_in (stepE_upon hk hR hkv h1 h2 fun a' w' h _ => hn a' w' h)
  · rw [wantA_ok hR h0]
    exact ⟨fun _ _ => trivial, hn _ _ (skip_rel hR hkv hd)⟩

theorem lexA_wp (hk : Cok P cx) {ops : List Oper} (hkv : ∀ o ∈ ops, ∀ d, o.dst = some d → B.kv d = none) {τ : Nat → TU} {K : St → Prop} {Q : Exit → Act → World → Prop} (hQ : ∀ st a w, K st → Rel P B w0 cx.n st a w → Q .normal a w) : ∀ (l : List Oper) (k : Nat) (st : St) (a : Act) (w : World), (∀ j, l[j]? = ops[k + j]?) → Rel P B w0 cx.n st a w → lexA cx ops τ K l k st →
    wpOpsIn (Fw B.ro) 0 P ops.toArray Q (List.range' k l.length) a w
  | [], k, st, a, w, _, hR, h => by simpa [wpOpsIn] using hQ st a w h hR
  | o :: l, k, st, a, w, hl, hR, h => by
    obtain ⟨e, hy, h⟩ := h
    rw [List.length_cons, List.range'_succ, wpOpsIn_cons]
    have ho : ops[k]? = some o := by simpa using (hl 0).symm
    refine yop_wp hk (hkv o (List.mem_of_getElem? ho)) hR hy (by simpa using ho) fun a' w' hR' => ?_
    exact lexA_wp hk hkv hQ l (k + 1) _ _ _ (fun j => by have := hl (j + 1); simpa [Nat.add_assoc, Nat.add_comm 1 j] using this) hR' h

theorem anyA_wp (hk : Cok P cx) {ops : List Oper} (hkv : ∀ o ∈ ops, ∀ d, o.dst = some d → B.kv d = none) {τ : Nat → TU} {K : St → Prop} {Q : Exit → Act → World → Prop} (hQ : ∀ st a w, K st → Rel P B w0 cx.n st a w → Q .normal a w) : ∀ (fuel : Nat) (listed : Array Bool) (st : St) (a : Act) (w : World), Rel P B w0 cx.n st a w → anyA cx ops τ K fuel listed st → wpAnyIn (Fw B.ro) 0 P .any ops.toArray Q fuel listed a w
  | 0, _, st, a, w, hR, h => ⟨h.1, hQ st a w h.2 hR⟩
  | fuel + 1, listed, st, a, w, hR, h => ⟨fun h0 => hQ st a w (h.1 h0) hR, fun i hi => by
      obtain ⟨o, e, ho, hy, h'⟩ := h.2 i hi
      exact yop_wp hk (hkv o (by simpa using List.mem_of_getElem? (l := ops) (by simpa using ho))) hR hy ho fun a' w' hR' => anyA_wp hk hkv hQ fuel _ _ _ _ hR' h'⟩

/-! ### Regions -/
def ncB (ops : List Oper) (acc : List TU) : Bool := go 0 acc
where
  go (k : Nat) : List TU → Bool
    | [] => true
    | tu :: l => (match tu.2 with | [] => true | _ => one k tu.2 0 acc) && go (k + 1) l
  one (k : Nat) (u : List Nat) (j : Nat) : List TU → Bool
    | [] => true
    | tu :: l => (Nat.beq j k || disj u tu.1 || tb (anc ops (ops.length - 1 - j)) (ops.length - 1 - k) || tb (anc ops (ops.length - 1 - k)) (ops.length - 1 - j)) && one k u (j + 1) l

theorem ncB_one {ops : List Oper} {k : Nat} {u : List Nat} : ∀ (l : List TU) (j0 : Nat), ncB.one ops k u j0 l = true → ∀ j tu, l[j]? = some tu → j0 + j = k ∨ disj u tu.1 = true ∨ tb (anc ops (ops.length - 1 - (j0 + j))) (ops.length - 1 - k) = true ∨ tb (anc ops (ops.length - 1 - k)) (ops.length - 1 - (j0 + j)) = true
  | [], _, _, j, tu, h => by simp at h
  | x :: l, j0, h, j, tu, hj => by
    simp only [ncB.one, Bool.and_eq_true, Bool.or_eq_true] at h
    cases j with
    | zero =>
      simp at hj; subst hj
      rcases h.1 with ((h | h) | h) | h
      · exact .inl (Nat.eq_of_beq_eq_true h)
      · exact .inr (.inl h)
      · exact .inr (.inr (.inl h))
      · exact .inr (.inr (.inr h))
    | succ j =>
      have := ncB_one l (j0 + 1) h.2 j tu (by simpa using hj)
      rwa [show j0 + 1 + j = j0 + (j + 1) by omega] at this

theorem ncB_go {ops : List Oper} {acc : List TU} : ∀ (l : List TU) (k0 : Nat), ncB.go ops acc k0 l = true → ∀ k tu, l[k]? = some tu → tu.2 = [] ∨ ncB.one ops (k0 + k) tu.2 0 acc = true
  | [], _, _, k, tu, h => by simp at h
  | x :: l, k0, h, k, tu, hj => by
    simp only [ncB.go, Bool.and_eq_true] at h
    cases k with
    | zero =>
      simp at hj; subst hj
      have h1 := h.1
      split at h1
      · rename_i e; exact .inl e
      · exact .inr h1
    | succ k =>
      have := ncB_go l (k0 + 1) h.2 k tu (by simpa using hj)
      rwa [show k0 + 1 + k = k0 + (k + 1) by omega] at this

theorem accOf_get (τ : Nat → TU) : ∀ (n i : Nat), i < n → (accOf τ n)[n - 1 - i]? = some (τ i)
  | 0, i, h => by omega
  | n + 1, i, h => by
    by_cases e : i = n
    · subst e; simp [accOf]
    · have := accOf_get τ n i (by omega)
      rw [show n + 1 - 1 - i = (n - 1 - i) + 1 by omega]
      simpa [accOf] using this

theorem disj_zero (T : List Nat) : disj [] T = true := rfl

theorem ncB_spec {ops : List Oper} {τ : Nat → TU} (h : ncB ops (accOf τ ops.length) = true) (i j : Nat) (hi : i < ops.length) (hj : j < ops.length) (hne : i ≠ j) : tb (anc ops j) i = true ∨ tb (anc ops i) j = true ∨ noconf (τ i) (τ j) = true := by
  have key : ∀ i j, i < ops.length → j < ops.length → i ≠ j → tb (anc ops j) i = true ∨ tb (anc ops i) j = true ∨ disj (τ i).2 (τ j).1 = true := by
    intro i j hi hj hne
    rcases ncB_go _ 0 h (ops.length - 1 - i) (τ i) (accOf_get τ _ i hi) with h1 | h1
    · rw [h1]; exact .inr (.inr (disj_zero _))
    · rcases ncB_one _ 0 h1 (ops.length - 1 - j) (τ j) (accOf_get τ _ j hj) with h2 | h2 | h2 | h2
      · omega
      · exact .inr (.inr h2)
      · rw [show ops.length - 1 - (0 + (ops.length - 1 - j)) = j by omega, show ops.length - 1 - (0 + (ops.length - 1 - i)) = i by omega] at h2
        exact .inl h2
      · rw [show ops.length - 1 - (0 + (ops.length - 1 - j)) = j by omega, show ops.length - 1 - (0 + (ops.length - 1 - i)) = i by omega] at h2
        exact .inr (.inl h2)
  rcases key i j hi hj hne with h1 | h1 | h1
  · exact .inl h1
  · exact .inr (.inl h1)
  · rcases key j i hj hi (Ne.symm hne) with h2 | h2 | h2
    · exact .inr (.inl h2)
    · exact .inl h2
    · exact .inr (.inr (by unfold noconf; rw [h1, h2]; rfl))

theorem closed_init (ops : List Oper) : closedL ops (Array.replicate ops.length false) := by
  intro j i h
  rcases Nat.lt_or_ge j ops.length with h2 | h2
  · simp [h2] at h
  · simp [Array.getElem?_eq_none, h2] at h

theorem rel_drew {st : St} {a : Act} {w : World} {n : Nat} (hR : Rel P B w0 n st a w) : Rel P B w0 n st a { w with drawn := w.drawn + 1 } := by
  obtain ⟨G, hm, he⟩ := hR.ex
  have hb : Below w.heap.size w { w with drawn := w.drawn + 1 } := (Below.refl _ _).drew
  obtain ⟨h1, h2⟩ := hm.grow hb
  exact ⟨⟨G, h1, fun t => (he t).ext h2⟩, hR.sz, ⟨hR.nd.1.oth h2.oth, hR.nd.2⟩, hR.kp⟩

theorem region_wp (hk : Cok P cx) {ops : Array Oper} {id : Nat} {Φ : St → Prop} {st : St} {a : Act} {w : World} (hR : Rel P B w0 cx.n st a w) (hkv : ∀ o ∈ ops.toList, ∀ d, o.dst = some d → B.kv d = none) (hd : dstsOK cx.n ops.toList = true) (h : runL cx ops.toList ops.toList st [] fun st _ => Φ st) {Q : Exit → Act → World → Prop} (hQ : ∀ st a w, Φ st → Rel P B w0 cx.n st a w → Q .normal a w) : (Code.region id ops false).wpIn (Fw B.ro) 0 P Q a w := by
  obtain ⟨τ, _, h⟩ := runL_lex (R := Real P B w0 cx.n) (Pd := fun o => ∀ d, o.dst = some d → B.kv d = none) (fun st o e tu hp => real_yop hk hp) ops.toList st [] 0 (fun _ => ([], [])) hkv ⟨a, w, hR⟩ hd rfl h
  refine wpIn_region ?_
  have := lexA_wp hk hkv (Q := Q) hQ ops.toList 0 st a w (by simp) hR h
  simpa [List.range_eq_range'] using this

theorem region_draw_wp (hk : Cok P cx) (hmix : P.follows .mixedOrders = true) {ops : Array Oper} {id : Nat} {Φ : St → Prop} {st : St} {a : Act} {w : World} (hR : Rel P B w0 cx.n st a w) (hkv : ∀ o ∈ ops.toList, ∀ d, o.dst = some d → B.kv d = none) (hd : dstsOK cx.n ops.toList = true) (hB : Region.lexB .any ops = true) (h : runL cx ops.toList ops.toList st [] fun st acc => ncB ops.toList acc = true ∧ Φ st) {Q : Exit → Act → World → Prop} (hQ : ∀ st a w, Φ st → Rel P B w0 cx.n st a w → Q .normal a w) : (Code.region id ops true).wpIn (Fw B.ro) 0 P Q a w := by
  obtain ⟨τ, _, h⟩ := runL_lex (R := Real P B w0 cx.n) (Pd := fun o => ∀ d, o.dst = some d → B.kv d = none) (fun st o e tu hp => real_yop hk hp) ops.toList st [] 0 (fun _ => ([], [])) hkv ⟨a, w, hR⟩ hd rfl h
  simp only [Nat.zero_add] at h
  have hnc : ncB ops.toList (accOf τ ops.toList.length) = true := by
    have : ∀ (l : List Oper) (k : Nat) (st : St), lexA cx ops.toList τ (fun st => ncB ops.toList (accOf τ ops.toList.length) = true ∧ Φ st) l k st → ncB ops.toList (accOf τ ops.toList.length) = true := by
      intro l
      induction l with
      | nil => intro k st h; exact h.1
      | cons o l ih => rintro k st ⟨e, _, h⟩; exact ih _ _ h
    exact this _ _ _ h
  simp only [Region.lexB, Bool.and_eq_true] at hB
  refine wpIn_region_any hmix ?_
  have hlex := anyA_lex (ncB_spec hnc) ops.toList 0 (Array.replicate ops.toList.length false) st (by simp) (closed_init _) (by simpa using hB.2) h
  have := anyA_wp hk hkv (Q := Q) (fun st a w h hR => hQ st a w h.2 hR) _ _ st a _ (rel_drew hR) hlex
  simpa using this

end

end Go.Tk
