/- The engine, part L: stores, min, max, and calls do what their abstract twins say. No conditions. -/
import Derived.Test.YthjkkjnnkkekeaaEngK
set_option linter.unusedSimpArgs false
set_option linter.unusedVariables false
namespace Go.Tk
open Go Go.RowKit

def ERs (P : Program) (B : Bs) (G : Nat → Gh) (m : Mem) (w : World) : List V → List Value → Prop
  | [], [] => True
  | p :: l, v :: k => ERep P B G m w p v ∧ ERs P B G m w l k
  | _, _ => False

section
variable {P : Program} {B : Bs} {G : Nat → Gh} {m m' : Mem} {w w0 : World} {cx : Cx}

theorem ERs.app : ∀ {l l' : List V} {k k' : List Value}, ERs P B G m w l k → ERs P B G m w l' k' → ERs P B G m w (l ++ l') (k ++ k')
  | [], _, [], _, _, h => h
  | _ :: _, _, _ :: _, _, ⟨a, b⟩, h => ⟨a, ERs.app b h⟩
  | [], _, _ :: _, _, h, _ => h.elim
  | _ :: _, _, [], _, h, _ => h.elim

theorem ERs.map {ev : Operand → V} {ρ : Operand → Value} (h : ∀ x, ERep P B G m w (ev x) (ρ x)) : ∀ (l : List Operand), ERs P B G m w (l.map ev) (l.map ρ)
  | [] => trivial
  | x :: l => ⟨h x, ERs.map h l⟩

theorem ERs.len : ∀ {l : List V} {k : List Value}, ERs P B G m w l k → l.length = k.length
  | [], [], _ => rfl
  | _ :: _, _ :: _, ⟨_, h⟩ => by simp [ERs.len h]
  | [], _ :: _, h => h.elim
  | _ :: _, [], h => h.elim

theorem ERs.get : ∀ {l : List V} {k : List Value}, ERs P B G m w l k → ∀ (j : Nat) (p : V) (q : Value), l[j]? = some p → k[j]? = some q → ERep P B G m w p q
  | [], [], _, j, p, q, h, _ => by simp at h
  | _ :: _, _ :: _, ⟨a, b⟩, 0, p, q, h, h' => by simp at h h'; subst h; subst h'; exact a
  | _ :: _, _ :: _, ⟨a, b⟩, j + 1, p, q, h, h' => ERs.get b j p q (by simpa using h) (by simpa using h')
  | [], _ :: _, h, _, _, _, _, _ => h.elim
  | _ :: _, [], h, _, _, _, _, _ => h.elim

/-! ### Stores -/
theorem stor_keep {t : T} {V : V} {f : Bool} {x : t.den} {u : List (Nat × Nat × L)} (h : stor cx.Γ m' t V = some (f, x, u)) : u = [] ∨ ∃ k g l, u = [(k, g, l)] := by
  unfold stor at h
  split at h
  · cases h
  · split at h
    · split at h
      · cases h; exact .inr ⟨_, _, _, rfl⟩
      · cases h; exact .inl rfl
      · cases h
    · cases h; exact .inl rfl

def only (m : Mem) (k : Nat) : Mem := fun n => if n = k then m n else none

theorem mput_only {k g : Nat} {p : List Stp} {f : Bool} {t : T} {y : t.den} : mput (only m k) k g p f t y = mput m k g p f t y := by
  unfold mput only
  simp

theorem aStore_ok (hk : Cok P cx) (hm : MRel P B G m w w0) (hs : Sub m' m) {t : TypeId} {a v : V} {e : Eff} (h : aStore cx t m' a v = some e) {va vv : Value} (ha : ERep P B G m w a va) (hv : ERep P B G m w v vv) :
    ∃ w', (Instr.storeAt t va vv).run P w = .ok () w' ∧ Post P B w0 G m w e undef w' := by
  unfold aStore at h
  split at h
  · cases h
  · rename_i u hu
    split at h
    · rename_i k g p
      split at h
      · rename_i f y us hst
        split at h
        · rename_i g' l hp
          split at h
          · rename_i hall
            cases h
            obtain ⟨r1, r2, cs, rfl, hc⟩ := stor_spec hk hm hs hst hv
            have hne : (putLoc m us) k = m k := by
              rcases stor_keep hst with rfl | ⟨k2, g2, l2, rfl⟩
              · rfl
              · simp at hall
                exact set1_other m g2 l2 (fun e => by subst e; simp at hall)
            have hsub : Sub (only m' k) (putLoc m us) := by
              intro n x hx
              unfold only at hx
              split at hx
              · rename_i hn; subst hn; rw [hne]; exact hs _ _ hx
              · cases hx
            rw [← mput_only] at hp
            obtain ⟨w', s1, s2, s3⟩ := mput_spec r1 hsub hp (ha.ext r2) (hk.Θ _ _ hu) (f0 := f) hc (by cases f <;> simp_all)
            exact ⟨w', s1, Post.seq r2 ⟨G, s2, s3, trivial⟩⟩
          · cases h
        · cases h
      · cases h
    · cases h

/-! ### min, max -/
theorem aMinGo_ok (f : Int → Int → Int) (F : Value → Value → Sem Value) (hF : ∀ x y (w : World), (F (.int .i64 x) (.int .i64 y)).run P w = .ok (.int .i64 (f x y)) w) (hf : ∀ x y, f x y = x ∨ f x y = y) :
    ∀ (l : List V) (k : List Value) (x : Int) (r : V), inI x → ERs P B G m w l k → aMinGo f x l = some r → ∃ n, inI n ∧ r = .d true .int n ∧ (k.foldlM F (.int .i64 x)).run P w = .ok (.int .i64 n) w
  | [], [], x, r, hx, _, h => by cases h; exact ⟨x, hx, rfl, rfl⟩
  | [], _ :: _, _, _, _, h, _ => h.elim
  | _ :: _, [], _, _, _, h, _ => h.elim
  | p :: l, v :: k, x, r, hx, ⟨h1, h2⟩, h => by
    cases p with
    | d f2 t y =>
      cases t with
      | int =>
        obtain ⟨cs, rfl, rfl, hy⟩ := h1
        have hxy : inI (f x y) := by rcases hf x y with e | e <;> rw [e] <;> assumption
        obtain ⟨n, a, b, c⟩ := aMinGo_ok f F hF hf l k _ r hxy h2 h
        exact ⟨n, a, b, by simp only [List.foldlM_cons, Sem.run_bind]; rw [show mkV .int [.int .i64 y] = .int .i64 y from rfl, hF]; exact c⟩
      | _ => simp [aMinGo] at h
    | _ => simp [aMinGo] at h

theorem aMin_ok (hm : MRel P B G m w w0) (f : Int → Int → Int) (F : Value → Value → Sem Value) (hF : ∀ x y (w : World), (F (.int .i64 x) (.int .i64 y)).run P w = .ok (.int .i64 (f x y)) w) (hf : ∀ x y, f x y = x ∨ f x y = y) {l : List V} {k : List Value} {r : V} (h : aMin f l = some r) (hl : ERs P B G m w l k) :
    ∃ x k' v, k = x :: k' ∧ (k'.foldlM F x).run P w = .ok v w ∧ Post P B w0 G m w ⟨True, r, []⟩ v w := by
  unfold aMin at h
  split at h
  · rename_i f1 x l'
    cases k with
    | nil => exact hl.elim
    | cons v k =>
      obtain ⟨⟨cs, rfl, rfl, hx⟩, h2⟩ := hl
      obtain ⟨n, a, rfl, c⟩ := aMinGo_ok f F hF hf _ k x r hx h2 h
      exact ⟨_, k, _, rfl, c, Post.eff hm (int_rep a)⟩
  · cases h

theorem min2_run (x y : Int) (w : World) : (Builtin.min2 (.int .i64 x) (.int .i64 y)).run P w = .ok (.int .i64 (min x y)) w := by
  simp only [Builtin.min2, Sem.run_pure]
  congr 2
  split <;> omega

theorem max2_run (x y : Int) (w : World) : (Builtin.max2 (.int .i64 x) (.int .i64 y)).run P w = .ok (.int .i64 (max x y)) w := by
  simp only [Builtin.max2, Sem.run_pure]
  congr 2
  split <;> omega

/-! ### Calls -/
theorem dS_false {f : Bool} {b : Nat} (h : dS B G m f b) : dS B G m false b := ⟨⟨fun e => (by cases e), h.1.2⟩, h.2⟩

theorem gather_spec (hk : Cok P cx) (hm : MRel P B G m w w0) (hs : Sub m' m) {S : Nat → Prop} (hS : ∀ b, dS B G m false b → S b) : ∀ (A : T) (vs : List V) (vals : List Value) (x : A.den), gather cx.Γ m' A vs = some x → ERs P B G m w vs vals →
    (∀ v ∈ vs, ∀ k g, v = .own k g → ∀ l g', m k = some (g', l) → l.mut = true → ∀ b o, (G k).blk = some (b, o) → S b) → (reps P A).v w S x vals []
  | .nil, [], [], x, h, _, _ => ⟨rfl, rfl⟩
  | .nil, [], _ :: _, _, _, h, _ => h.elim
  | .nil, _ :: _, _, _, h, _, _ => by simp [gather] at h
  | .cons a b, [], _, _, h, _, _ => by simp [gather] at h
  | .cons a b, v :: vs, [], _, _, h, _ => h.elim
  | .cons a b, v :: vs, u :: us, x, h, ⟨h1, h2⟩, h3 => by
    unfold gather at h
    split at h
    · rename_i f y ha
      split at h
      · rename_i z hz
        cases h
        obtain ⟨cs, rfl, hc⟩ := asD_gen hk hm hs ha h1 (S := S) (fun b _ hb => hS b (dS_false hb)) (h3 v (by simp))
        exact ⟨_, us, [], [], rfl, rfl, o_of_c hc, gather_spec hk hm hs hS b vs us z hz h2 (fun v hv => h3 v (by simp [hv]))⟩
      · cases h
    · cases h
  | .int, _, _, _, h, _, _ => by simp [gather] at h
  | .bool, _, _, _, h, _, _ => by simp [gather] at h
  | .sl _, _, _, _, h, _, _ => by simp [gather] at h
  | .osl _, _, _, _, h, _, _ => by simp [gather] at h
  | .ref _, _, _, _, h, _, _ => by simp [gather] at h
  | .arr _ _, _, _, _, h, _, _ => by simp [gather] at h
  | .fn _ _, _, _, _, h, _, _ => by simp [gather] at h

theorem capV_spec : ∀ (t : T) (x : t.den) (vs : List Value), t.noOwn = true → (reps P t).v w (dS B G m false) x vs [] → ERs P B G m w (capV t x) vs
  | .nil, _, _, _, ⟨e, _⟩ => by subst e; trivial
  | .cons a b, x, _, hn, ⟨v, vs', b1, b2, e, e2, h1, h2⟩ => by
    obtain ⟨rfl, rfl⟩ := List.append_eq_nil_iff.1 e2.symm
    subst e
    cases a
    case osl s => simp [T.noOwn] at hn
    all_goals exact ⟨h1.2, capV_spec b x.2 vs' (by simpa [T.noOwn] using hn) h2⟩
  | .int, _, _, h, _ => by simp [T.noOwn] at h
  | .bool, _, _, h, _ => by simp [T.noOwn] at h
  | .sl _, _, _, h, _ => by simp [T.noOwn] at h
  | .osl _, _, _, h, _ => by simp [T.noOwn] at h
  | .ref _, _, _, h, _ => by simp [T.noOwn] at h
  | .arr _ _, _, _, h, _ => by simp [T.noOwn] at h
  | .fn _ _, _, _, h, _ => by simp [T.noOwn] at h

theorem restV_spec {f : Bool} {S : Nat → Prop} (hS : ∀ b, b < w.heap.size → S b → dS B G m f b) : ∀ (R : T) (y : R.den) (vs : List Value) (bs : List Nat), (reps P R).v w S y vs bs → ERs P B G m w (restV f R y) vs
  | .nil, _, _, _, ⟨e, _⟩ => by subst e; trivial
  | .cons a b, y, _, _, ⟨v, vs', b1, b2, e, e2, h1, h2⟩ => by
    subst e
    refine ⟨?_, restV_spec hS b y.2 vs' b2 h2⟩
    cases a
    case osl s => trivial
    all_goals (obtain ⟨_, cs, e, hc⟩ := h1; exact ⟨cs, e, c_mono _ hc hS⟩)
  | .int, _, _, _, h => h.elim
  | .bool, _, _, _, h => h.elim
  | .sl _, _, _, _, h => h.elim
  | .osl _, _, _, _, h => h.elim
  | .ref _, _, _, _, h => h.elim
  | .arr _ _, _, _, _, h => h.elim
  | .fn _ _, _, _, _, h => h.elim

theorem packV_spec : ∀ {vs : List V} {rs : List Value}, ERs P B G m w vs rs → ERep P B G m w (packV vs) (mkRes rs)
  | [], [], _ => ⟨[], rfl, rfl, fun i u h => by simp at h⟩
  | [v], [r], h => h.1
  | v :: v2 :: vs, r :: r2 :: rs, h => by
    refine ⟨r :: r2 :: rs, rfl, h.len.symm, ?_⟩
    have key : ∀ (vs : List V) (rs : List Value), ERs P B G m w vs rs → ∀ i u, rs[i]? = some u → ERep P B G m w (tupV vs i) u := by
      intro vs
      induction vs with
      | nil => intro rs h i u hu; trivial
      | cons v vs ih =>
        intro rs h i u hu
        cases rs with
        | nil => exact h.elim
        | cons r rs =>
          cases i with
          | zero => simp at hu; subst hu; exact h.1
          | succ i => exact ih rs h.2 i u (by simpa using hu)
    exact key _ _ h
  | [], _ :: _, h => h.elim
  | _ :: _, [], h => h.elim
  | [_], _ :: _ :: _, h => h.2.elim
  | _ :: _ :: _, [_], h => h.2.elim

theorem res_post (hm : MRel P B G m w w0) {w' : World} (hb : Below w.heap.size w w') {al : Bool} {S : Nat → Prop} (hS : al = true → ∀ b, S b → dS B G m false b) {R : T} {y : R.den} {rs : List Value} {bs : List Nat}
    (hv : (reps P R).v w' (fun b => (w.heap.size ≤ b ∨ (al = true ∧ S b)) ∧ b ∉ bs) y rs bs) (hn : ∀ b ∈ bs, w.heap.size ≤ b) {dst : Option Nat} (hd : ∀ d, dst = some d → m' d = m d) {p : Prop} :
    Post P B w0 G m w ⟨p, (resV m' (!al) R y dst).1, (resV m' (!al) R y dst).2⟩ (mkRes rs) w' := by
  have old : ∀ (b : Nat), ((w.heap.size ≤ b ∨ (al = true ∧ S b)) ∧ b ∉ bs) → dS B G m (!al) b := by
    rintro b ⟨h1, _⟩
    rcases h1 with h1 | ⟨rfl, h1⟩
    · refine ⟨⟨fun _ => Nat.le_trans hm.base h1, .inl (Nat.le_trans hm.base h1)⟩, fun k g l hk hmut o e => ?_⟩
      have := ((hm.loc k g l hk).blk_lt hmut e).1
      omega
    · exact hS rfl b h1
  have plain : Post P B w0 G m w ⟨p, packV (restV (!al) R y), []⟩ (mkRes rs) w' := by
    obtain ⟨g1, g2⟩ := hm.grow hb
    exact ⟨G, g1, g2, packV_spec (restV_spec (fun b _ h => old b h) R y rs bs hv)⟩
  unfold resV
  cases R with
  | cons a b =>
    cases a
    case osl s =>
      cases dst with
      | none => exact plain
      | some id =>
        obtain ⟨v, vs', b1, b2, rfl, rfl, ⟨ob, ho, rfl⟩, h2⟩ := hv
        have hob : ∀ b o, ob = some (b, o) → w.heap.size ≤ b := fun b o e => hn b (by simp [e])
        have hch := Chg.new (B := B) (G := G) (m := m) id ⟨v, ob⟩ (.sl (!al) s y.1) hb hob
        have he := hch.ext hm
        have hS' : ∀ b, ((w.heap.size ≤ b ∨ (al = true ∧ S b)) ∧ b ∉ (ob.map (·.1)).toList ++ b2) → dS B (setG G id ⟨v, ob⟩) (set1 m id (nx m id) (.sl (!al) s y.1)) (!al) b := by
          intro b h
          refine ⟨(old b h).1, fun k g l hk hmut o e => ?_⟩
          rcases set1_cases hk with ⟨rfl, e1⟩ | ⟨hne, hk⟩
          · rw [setG_same] at e
            have e : ob = some (b, o) := e
            exact h.2 (by simp [e])
          · rw [setG_other _ _ hne] at e
            exact (old b h).2 k g l hk hmut o e
        have hr := hch.rel hm (by
          unfold LRep
          rw [setG_same]
          rcases ho with h | ⟨b, off, cap, cur, e, h1, h2, h3, h4, h5, h6, h7, h8⟩
          · exact .inl h
          · exact .inr ⟨b, off, cap, cur, e, h1, h2, Nat.le_trans hm.base (hob b off h1), h4, h5, h6, h7, repL_mono (fun _ _ h => c_mono _ h (fun b _ hb => hS' b hb)) _ _ h8⟩)
        show Post P B w0 G m w ⟨p, packV (.own id (nx m' id) :: restV (!al) b y.2), [(id, nx m' id, .sl (!al) s y.1)]⟩ (mkRes (v :: vs')) w'
        rw [nx_eq (hd id rfl)]
        refine ⟨_, hr, he, packV_spec ⟨⟨_, _, set1_same .., Nat.le_refl _, fun _ => by rw [setG_same]; rfl⟩, restV_spec (fun b _ h => hS' b h) b y.2 vs' b2 h2⟩⟩
    all_goals exact plain
  | _ => exact plain

theorem isMut_spec (hs : Sub m' m) {k g : Nat} (h : isMut m' (.own k g) = false) {l : L} {g' : Nat} (hk : m k = some (g', l)) : l.mut = false := by
  unfold isMut at h
  simp only at h
  split at h
  · rename_i g2 l2 e
    have := hs _ _ e
    rw [hk] at this; cases this; exact h
  · cases h

theorem capV_data : ∀ (t : T) (x : t.den), ∀ v ∈ capV t x, ∀ k g, v ≠ .own k g
  | .cons a b, x, v, hv, k, g => by
    simp only [capV, List.mem_cons] at hv
    rcases hv with rfl | hv
    · simp
    · exact capV_data b x.2 v hv k g
  | .nil, _, _, h, _, _ => by simp [capV] at h
  | .int, _, _, h, _, _ => by simp [capV] at h
  | .bool, _, _, h, _, _ => by simp [capV] at h
  | .sl _, _, _, h, _, _ => by simp [capV] at h
  | .osl _, _, _, h, _, _ => by simp [capV] at h
  | .ref _, _, _, h, _, _ => by simp [capV] at h
  | .arr _ _, _, _, h, _, _ => by simp [capV] at h
  | .fn _ _, _, _, h, _, _ => by simp [capV] at h

theorem run_enter {g : FuncId} (h : FunOK P g) (args : Array Value) : (callFunc g args).run P w = .ok (.enter g args) w := by
  obtain ⟨fn, h1, h2, h3⟩ := h
  have h4 : fn.name ≠ "runtime.NumGoroutine" := by simpa using h2
  cases hb : fn.body with
  | none => rw [hb] at h3; simp at h3
  | some c => simp [callFunc, h1, h4, hb]

theorem aCall_ok (hk : Cok P cx) (hm : MRel P B G m w w0) (hs : Sub m' m) {dst : Option Nat} (hd : ∀ d, dst = some d → m' d = m d) {f : V} {args : List V} {e : Eff} (h : aCall cx dst m' f args = some e) (hpre : e.pre) {vf : Value} {vals : List Value} (hf : ERep P B G m w f vf) (ha : ERs P B G m w args vals) :
    ∃ g argv, (do let d ← Deferred.ofValue vf vals.toArray; invoke d.target d.args : Sem Next).run P w = .ok (.enter g argv) w ∧ Calls P g argv w fun en w' => ∃ v, en = .returned v ∧ Post P B w0 G m w e v w' := by
  unfold aCall at h
  split at h
  · rename_i g ct x
    split at h
    · cases h
    · rename_i hno
      split at h
      · rename_i con hg
        split at h
        · rename_i a hga
          split at h
          · cases h
          · rename_i hal
            cases h
            obtain ⟨caps, rfl, hc⟩ := hf
            refine ⟨g, (vals ++ caps).toArray, by simp [Deferred.ofValue, invoke, run_enter (hk.fn g con hg)], ?_⟩
            have hcv := capV_spec ct x caps hno hc
            have hall := ha.app hcv
            cases hcal : con.al
            · have hx := gather_spec hk hm hs (S := fun _ => True) (fun _ _ => trivial) con.A _ _ a hga hall (fun _ _ _ _ _ _ _ _ _ _ _ _ => trivial)
              refine (hk.Γ g con hg w (fun _ => True) a (vals ++ caps) hx hpre).mono ?_
              rintro en w' ⟨rs, bs, rfl, h1, h2, h3, h4⟩
              refine ⟨_, rfl, ?_⟩
              rw [hcal] at h1
              exact res_post hm h4 (al := false) (S := fun _ => True) (fun e => by cases e) h1 h3 hd
            · rw [hcal] at hal
              have hal' : args.any (isMut m') = false := by simpa using hal
              have hx := gather_spec hk hm hs (S := dS B G m false) (fun _ h => h) con.A _ _ a hga hall (by
                intro v hv k g0 e l g' hmk hmut b o hb
                subst e
                rcases List.mem_append.1 hv with hv | hv
                · have := isMut_spec hs (by simpa using (List.any_eq_false.1 hal' _ hv)) hmk
                  rw [this] at hmut; cases hmut
                · exact absurd rfl (capV_data ct x _ hv k g0))
              refine (hk.Γ g con hg w (dS B G m false) a (vals ++ caps) hx hpre).mono ?_
              rintro en w' ⟨rs, bs, rfl, h1, h2, h3, h4⟩
              refine ⟨_, rfl, ?_⟩
              rw [hcal] at h1
              exact res_post hm h4 (al := true) (S := dS B G m false) (fun _ _ h => h) h1 h3 hd
        · cases h
      · split at h
        · rename_i a b x0
          split at h
          · rename_i hmul
            cases h
            obtain ⟨caps, rfl, hc⟩ := hf
            obtain ⟨rfl, _⟩ := hc
            obtain ⟨p1, p2, p3, p4⟩ : 0 ≤ a ∧ a < 18446744073709551616 ∧ 0 ≤ b ∧ b < 18446744073709551616 := hpre
            obtain ⟨va, vb, rfl, rfl, rfl⟩ : ∃ va vb, vals = [va, vb] ∧ va = .int .u64 a ∧ vb = .int .u64 b := by
              match vals, ha with
              | [va, vb], ⟨h1, h2, _⟩ => exact ⟨va, vb, rfl, h1, h2⟩
            obtain ⟨hF, hM⟩ := hk.X.mul _ hmul
            obtain ⟨x, rfl⟩ := Int.eq_ofNat_of_zero_le p1
            obtain ⟨y, rfl⟩ := Int.eq_ofNat_of_zero_le p3
            refine ⟨g, #[.int .u64 x, .int .u64 y], by simp [Deferred.ofValue, invoke, run_enter hF], ?_⟩
            refine (hM x y w (by omega) (by omega)).mono ?_
            rintro en w' ⟨rfl, rfl⟩
            refine ⟨_, rfl, Post.eff hm ?_⟩
            refine ⟨_, rfl, rfl, fun i u hu => ?_⟩
            match i, hu with
            | 0, hu => cases hu; show _ = _; simp
            | 1, hu => cases hu; show _ = _; simp
          · cases h
        · cases h
  · rename_i g ct x
    split at h
    · cases h
    · rename_i hno
      split at h
      · rename_i con hg
        split at h
        · cases h
        · rename_i hal
          split at h
          · rename_i a hga
            cases h
            obtain ⟨fs, rfl, hc⟩ := hf
            refine ⟨g, (fs ++ vals).toArray, by simp [Deferred.ofValue, invoke, run_enter (hk.fn g con hg)], ?_⟩
            have hcv := capV_spec ct x fs hno hc
            have hall := hcv.app ha
            have hx := gather_spec hk hm hs (S := fun _ => True) (fun _ _ => trivial) con.A _ _ a hga hall (fun _ _ _ _ _ _ _ _ _ _ _ _ => trivial)
            refine (hk.Γ g con hg w (fun _ => True) a (fs ++ vals) hx hpre).mono ?_
            rintro en w' ⟨rs, bs, rfl, h1, h2, h3, h4⟩
            refine ⟨_, rfl, ?_⟩
            rw [hal] at h1
            exact res_post hm h4 (al := false) (S := fun _ => True) (fun e => by cases e) h1 h3 hd
          · cases h
      · cases h
  · rename_i fl a r F
    split at h
    · rename_i x hga
      cases h
      obtain ⟨cs, rfl, hc⟩ := hf
      have hx := gather_spec hk hm hs (S := fun _ => True) (fun _ _ => trivial) a _ _ x hga ha (fun _ _ _ _ _ _ _ _ _ _ _ _ => trivial)
      rcases hc with ⟨_, hno⟩ | ⟨g, caps, rfl, hfun, hfn⟩
      · exact absurd hpre (hno x)
      · refine ⟨g, (vals ++ caps).toArray, by simp [mkV, T.agg, Deferred.ofValue, invoke, run_enter hfun], ?_⟩
        refine (hfn w (Keep.refl _ _) _ x vals hx hpre).mono ?_
        rintro en w' ⟨rs, bs, rfl, h1, h2, h3, h4⟩
        refine ⟨_, rfl, ?_⟩
        refine res_post hm h4 (al := false) (S := fun _ => True) (fun e => by cases e) (v_mono r h1 (fun b h => ⟨.inl h.1, h.2⟩)) h3 hd
    · cases h
  · cases h

end

end Go.Tk
