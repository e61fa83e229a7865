/- The engine, part L: stores, min, max, and calls do what their abstract twins say. No conditions. -/
import Derived.Test.YtmedjckknalpbaaEngK
set_option linter.unusedSimpArgs false
set_option linter.unusedVariables false
namespace Go.Tk
open Go Go.RowKit

def ERs (P : Program) (B : Bs) (G : Nat → Gh) (m : Mem) (w : World) : List V → List Value → Prop
  | [], [] => True
  | p :: l, v :: k => ERep P B G m w p v ∧ ERs P B G m w l k
  | _, _ => False

section
variable {P : Program} {B : Bs} {G : Nat → Gh} {m m' : Mem} {w w0 : World} {cx : Cx}

theorem ERs.app : ∀ {l l' : List V} {k k' : List Value}, ERs P B G m w l k → ERs P B G m w l' k' → ERs P B G m w (l ++ l') (k ++ k')
  | [], _, [], _, _, h => h
  | _ :: _, _, _ :: _, _, ⟨a, b⟩, h => ⟨a, ERs.app b h⟩
  | [], _, _ :: _, _, h, _ => h.elim
  | _ :: _, _, [], _, h, _ => h.elim

theorem ERs.map {ev : Operand → V} {ρ : Operand → Value} (h : ∀ x, ERep P B G m w (ev x) (ρ x)) : ∀ (l : List Operand), ERs P B G m w (l.map ev) (l.map ρ)
  | [] => trivial
  | x :: l => ⟨h x, ERs.map h l⟩

theorem ERs.len : ∀ {l : List V} {k : List Value}, ERs P B G m w l k → l.length = k.length
  | [], [], _ => rfl
  | _ :: _, _ :: _, ⟨_, h⟩ => by simp [ERs.len h]
  | [], _ :: _, h => h.elim
  | _ :: _, [], h => h.elim

theorem ERs.get : ∀ {l : List V} {k : List Value}, ERs P B G m w l k → ∀ (j : Nat) (p : V) (q : Value), l[j]? = some p → k[j]? = some q → ERep P B G m w p q
  | [], [], _, j, p, q, h, _ => by simp at h
  | _ :: _, _ :: _, ⟨a, b⟩, 0, p, q, h, h' => by simp at h h'; subst h; subst h'; exact a
  | _ :: _, _ :: _, ⟨a, b⟩, j + 1, p, q, h, h' => ERs.get b j p q (by simpa using h) (by simpa using h')
  | [], _ :: _, h, _, _, _, _, _ => h.elim
  | _ :: _, [], h, _, _, _, _, _ => h.elim

/-! ### Stores -/
theorem stor_keep {t : T} {V : V} {f : Bool} {x : t.den} {u : List (Nat × Nat × L)} (h : stor cx.Γ m' t V = some (f, x, u)) : u = [] ∨ ∃ k g l, u = [(k, g, l)] := by
  unfold stor at h
  split at h
  · cases h
  · split at h
    · split at h
      · cases h; exact .inr ⟨_, _, _, rfl⟩
      · cases h; exact .inl rfl
      · cases h; exact .inr ⟨_, _, _, rfl⟩
      · cases h
    · cases h
    · cases h; exact .inl rfl

def only (m : Mem) (k : Nat) : Mem := fun n => if n = k then m n else none

theorem mput_only {k g : Nat} {p : List Stp} {f : Bool} {t : T} {y : t.den} : mput (only m k) k g p f t y = mput m k g p f t y := by
  unfold mput only
  simp

theorem LExt.nl {f f' : Bool} {t : T} {xss xss' : List (List t.den)} {h : Nat} {hole : Option Nat} (hl : xss.length = xss'.length) (hl2 : ∀ n, (xss.getD n []).length = (xss'.getD n []).length) : LExt (.nl f t xss h hole) (.nl f' t xss' h hole) := fun Gk =>
  ⟨fun _ _ ⟨b, off, n, h1, h2, h3⟩ => ⟨b, off, n, h1, by rw [← hl]; exact h2, h3⟩, rfl, fun _ _ _ h => h, fun h1 n v hv => ⟨hv.1, fun e => ⟨by rw [← hl]; exact (hv.2 e).1, (hv.2 e).2⟩⟩, fun h1 n p v hv => ⟨hv.1, fun e => by
    obtain ⟨b, off, o, i, p', q1, q2, q3, q4⟩ := hv.2 e
    exact ⟨b, off, o, i, p', q1, by rw [← hl]; exact q2, by rw [← hl2]; exact q3, q4⟩⟩⟩

theorem iput_spec (hm : MRel P B G m w w0) (hs : Sub m' m) {k g hh n : Nat} {p : List Stp} {f : Bool} {t : T} {y : t.den} {g' : Nat} {l' : L} (h : iput m' k g hh n p f t y = some (g', l')) {v : Value} (hv : ERep P B G m w (.ipt k g hh n p) v)
    {i : TypeId} (ht : (tys P t).ty i) {cy : List Value} {f0 : Bool} (hc : (reps P t).c w (dS B G m f0) y cy) (hf : f = false ∨ f0 = true ∨ t.flat = true) :
    ∃ w', (Instr.storeAt i v (mkV t cy)).run P w = .ok () w' ∧ MRel P B G (set1 m k g' l') w' w0 ∧ Ext B G m w G (set1 m k g' l') w' := by
  obtain ⟨g1, l, hk, hle, hv⟩ := hv
  have hc1 : ∀ f1, (reps P t).c w (dS B G m (f1 && f)) y cy := by
    intro f1
    cases h1 : (f1 && f)
    · exact c_and hc (fun _ => rfl)
    · have hf1 : f = true := by cases f <;> simp_all
      rcases hf with h | h | h
      · rw [hf1] at h; cases h
      · subst h; exact c_and hc (by simp)
      · exact c_flat t h hc
  unfold iput at h
  split at h
  · rename_i g2 f2 s2 xss h2 hole e2
    have e3 := hs _ _ e2
    rw [hk] at e3; cases e3
    split at h
    · rename_i hb
      simp only [Bool.and_eq_true] at hb
      obtain ⟨hb1, hb2, hb3⟩ := hb
      obtain rfl := Nat.eq_of_beq_eq_true hb1
      obtain rfl := Nat.eq_of_beq_eq_true hb2
      have hne : hole ≠ some n := fun e => by subst e; simp at hb3
      split at h
      · rename_i j p'
        split at h
        · rename_i x' hr
          cases h
          obtain ⟨b', off, o, n', p2, h6, hn, h7, h8, h9, h10, h11⟩ := (hv rfl).2 rfl
          cases h6
          obtain ⟨vs, a1, a2, a3, a4, a5, a6, a7⟩ := hm.loc k _ _ hk
          obtain ⟨xs2, hx2⟩ : ∃ xs2, xss.getD n [] = xs2 := ⟨_, rfl⟩
          rw [hx2] at hr h7
          have hxn : xss[n]? = some xs2 := by rw [getD_of_lt (d := []) hn, hx2]
          rcases a4 n _ hxn hne with ⟨_, _, hn⟩ | ⟨b, off2, cap, cur, e, h1, h2, h3, h4, h5, h12, h13, h14⟩
          · rw [hn] at h8; cases h8
          · rw [h1] at h8; cases h8
            have hlen := repL_len (fun x cs h => c_len (P := P) s2 h) _ _ h14
            have h14' := repL_mono (fun _ _ h => c_and h (f' := f2 && f) (by simp_all)) _ _ h14
            have he := repL_get (fun x cs h => c_len (P := P) s2 h) _ _ h14' j _ (getD_of_lt (d := s2.dflt) h7)
            obtain ⟨r1, r2⟩ := put_c _ _ p' t y o x' hr h9 h10 he (hc1 f2)
            have hmul : j * s2.csize + s2.csize ≤ xs2.length * s2.csize := by
              have : (j + 1) * s2.csize ≤ xs2.length * s2.csize := Nat.mul_le_mul_right _ h7
              rwa [Nat.add_mul, Nat.one_mul] at this
            have hcap : xs2.length * s2.csize ≤ cap * s2.csize := Nat.mul_le_mul_right _ h5
            rw [List.length_take, List.length_drop] at r2
            rw [List.length_take, List.length_drop, Array.length_toList] at hlen
            have hset := repL_set (fun x cs h => c_len (P := P) s2 h) _ _ h14' j h7 _ _ r1
            have e1 := splice_in ((cur.toList.drop off).take (xs2.length * s2.csize)) cy (j * s2.csize) s2.csize o (by omega)
            rw [e1] at hset
            have hst := run_storeVar ht hc h4 (o := off + (j * s2.csize + o)) (by omega)
            have hch := Chg.row hm hk rfl h4 (.inr ⟨n, _, h1⟩) (l' := .nl (f2 && f) s2 (xss.set n (xs2.set j x')) hh hole) (LExt.nl (by simp) (fun n' => by
              simp only [List.getD_eq_getElem?_getD, List.getElem?_set]
              by_cases e : n = n'
              · subst e
                rw [if_pos rfl, if_pos hn, hxn]
                simp
              · rw [if_neg e])) (fun b h => h) (cur.toList.take (off + (j * s2.csize + o)) ++ cy ++ cur.toList.drop (off + (j * s2.csize + o) + cy.length)).toArray
            have hex := hch.ext hm
            have hl := hch.rel hm (by
              unfold LRep
              rw [setG_self]
              rw [setG_self] at hex
              refine ⟨vs, a1.ext (fun b1 o1 e1 => setRow_other w _ b1 _ fun e2 => by subst e2; exact a7 n _ _ o1 h1 e1) fun _ _ h => h, by simpa using a2, a3, fun n' xs' hx' hne' => ?_, fun n' hn' => a5 n' (by simpa using hn'), a6, a7⟩
              rw [List.getElem?_set] at hx'
              by_cases en : n = n'
              · subst en
                rw [if_pos rfl, if_pos hn] at hx'
                cases hx'
                refine .inr ⟨_, off, cap, _, e, h1, by simpa using h2, h3, setRow_heap w _ cur _ e _ h4, by simpa using h5, by simpa using h12, ?_, ?_⟩
                · simp only [List.size_toArray, List.length_append, List.length_take, List.length_drop, Array.length_toList]; omega
                · have h15 := repL_mono (fun _ _ h => hex.c h) _ _ hset
                  rw [List.length_set, List.toList_toArray]
                  have e2 := mput_spec.splice_in2 cur.toList cy off (xs2.length * s2.csize) (j * s2.csize + o) (by omega) (by simp; omega)
                  rw [e2]
                  exact h15
              · rw [if_neg en] at hx'
                exact (a4 n' xs' hx' hne').ext (fun b1 o1 e1 => setRow_other w _ b1 _ fun e2 => by subst e2; exact en (a6 n n' _ _ o1 h1 e1)) fun _ _ h => hex.c (c_and h (by simp_all)))
            rw [setG_self] at hex hl
            rw [hx2]
            exact ⟨_, by simp [h11, Instr.storeAt, Instr.sureAddr, hst], hl, hex⟩
        · cases h
      · cases h
    · cases h
  · cases h

/-- An own slice goes to a place of a nested own slice. -/
theorem aMoveIn_ok (hm : MRel P B G m w w0) (hs : Sub m' m) {t : TypeId} {u : T} (hu : (tys P (.sl u)).ty t) {k g : Nat} {p : List Stp} {v : V} {e : Eff} (h : aMoveIn k g p m' v u = some e) (hpre : e.pre) {va vv : Value} (ha : ERep P B G m w (.ptr k g p) va) (hv : ERep P B G m w v vv) :
    ∃ w', (Instr.storeAt t va vv).run P w = .ok () w' ∧ Post P B w0 G m w e undef w' := by
  unfold aMoveIn at h
  split at h
  · rename_i k2 g2 n
    split at h
    · rename_i g1 f t0 xss hh hole g2' f2 t2 xs e1 e2
      split at h
      · rename_i hb
        split at h
        · rename_i hg
          cases h
          simp only [Bool.and_eq_true, Bool.not_eq_true'] at hg
          obtain ⟨hg1, hg2, hg3, hg4⟩ := hg
          obtain rfl := Nat.eq_of_beq_eq_true hg1
          obtain rfl := Nat.eq_of_beq_eq_true hg2
          obtain rfl := T.beq_eq hb
          obtain rfl := T.beq_eq hg4
          have hkk : k ≠ k2 := fun e => by rw [e] at hg3; simp at hg3
          have e1 := hs _ _ e1
          have e2 := hs _ _ e2
          obtain ⟨gA, lA, hA, _, ha⟩ := ha
          rw [e1] at hA; cases hA
          obtain ⟨gB, lB, hB, _, hv⟩ := hv
          rw [e2] at hB; cases hB
          obtain ⟨b, off, n', hn', hlt, hblk, rfl⟩ := ha rfl
          cases hn'
          have hv : vv = (G k2).hdr := hv rfl
          have hl1 := hm.loc k _ _ e1
          have hl2 := hm.loc k2 _ _ e2
          unfold LRep at hl2
          obtain ⟨vs, a1, a2, a3, a4, a5, a6, a7⟩ := hl1
          have dj : ∀ b1, ownL (G k) (.nl f t2 xss hh hole) b1 → ∀ o, (G k2).blk = some (b1, o) → False := fun b1 h1 o h2 => hkk (hm.inj k k2 _ _ _ _ b1 e1 e2 rfl rfl h1 ⟨o, h2⟩)
          rcases a1 with ⟨_, _, hn⟩ | ⟨b', off2, cap, cur, e, h1, h2, h3, h4, h5, h12, h13, h14⟩
          · rw [hn] at hblk; cases hblk
          · rw [h1] at hblk; cases hblk
            obtain ⟨hole', hh'⟩ : ∃ hole' : Option Nat, hole' = none := ⟨_, rfl⟩
            rw [← hh']
            have ho1 : hole' ≠ some n := by rw [hh']; simp
            have ho2 : ∀ i, hole' = some i → hole = some i := by
              intro i e
              rw [hh'] at e; cases e
            have ho3 : ∀ i, i ≠ n → hole = some i → hole' = some i := by
              intro i hi e
              subst e
              exact absurd (show n = i from hpre).symm hi
            have hsl : (reps P (.sl t2)).c w (fun _ => True) xs [vv] := ⟨vv, rfl, by rw [hv]; exact repSl_of_own hl2 (fun _ _ _ => trivial) fun _ _ h => c_mono _ h fun _ _ _ => trivial⟩
            have hcl : ∀ (v : Value) cs, (fun v cs => cs = [v]) v cs → cs.length = 1 := fun v cs h => by rw [h]; rfl
            have hlen := repL_len hcl _ _ h14
            rw [List.length_take, List.length_drop, Array.length_toList] at hlen
            have hst := run_storeVar hu hsl h4 (o := off + n) (by simp; omega)
            have hset := repL_set hcl _ _ h14 n (by omega) vv [vv] rfl
            obtain ⟨gk, hgk⟩ : ∃ gk : Gh, gk = ⟨(G k).hdr, (G k).blk, fun i => if i = n then (G k2).hdr else (G k).ih i, fun i => if i = n then (G k2).blk else (G k).ib i, (G k).ex, (G k).hz⟩ := ⟨_, rfl⟩
            have hhdr : gk.hdr = (G k).hdr := by rw [hgk]
            have hb1 : gk.blk = (G k).blk := by rw [hgk]
            have hih : ∀ i, gk.ih i = if i = n then (G k2).hdr else (G k).ih i := fun i => by rw [hgk]
            have hibn : ∀ i, gk.ib i = if i = n then (G k2).blk else (G k).ib i := fun i => by rw [hgk]
            have hG1 : setG (setG G k2 (G k2)) k gk k = gk := setG_same ..
            have hG2 : setG (setG G k2 (G k2)) k gk k2 = G k2 := by rw [setG_other _ _ (Ne.symm hkk), setG_same]
            obtain ⟨nw, hnw⟩ : ∃ nw : L, nw = .nl (f && f2) t2 (xss.set n xs) (hh + 1) hole' := ⟨_, rfl⟩
            have hm1 : set1 (set1 m k2 (g2 + 1) .mv) k g nw k = some (g, nw) := set1_same ..
            have hm2 : set1 (set1 m k2 (g2 + 1) .mv) k g nw k2 = some (g2 + 1, .mv) := by rw [set1_other _ _ _ hkk, set1_same]
            have hch : Chgs (fun x => x = k ∨ x = k2) B G m w (setG (setG G k2 (G k2)) k gk) (set1 (set1 m k2 (g2 + 1) .mv) k g nw) (w.setRow b (cur.toList.take (off + n) ++ [vv] ++ cur.toList.drop (off + n + [vv].length)).toArray) := by
              refine ⟨rfl, rfl, rfl, by simp, fun x hx => ?_, fun i hi hne => setRow_other w b i _ fun e => hne k g _ (.inl rfl) e1 rfl (.inl ⟨off, by rw [e]; exact h1⟩), ?_, ?_, ?_, oth_row h4 _⟩
              · have q1 : x ≠ k := fun e => hx (.inl e)
                have q2 : x ≠ k2 := fun e => hx (.inr e)
                exact ⟨by rw [set1_other _ _ _ (Ne.symm q1), set1_other _ _ _ (Ne.symm q2)], by rw [setG_other _ _ q1, setG_other _ _ q2]⟩
              · rintro x g1 l1 (rfl | rfl) hx hmut b1 e
                · rw [hm1] at hx; cases hx
                  rw [hG1, hnw] at e
                  rcases e with ⟨o, e⟩ | ⟨i, o, e⟩
                  · rw [hb1] at e
                    exact .inr ⟨x, _, _, .inl rfl, e1, rfl, .inl ⟨o, e⟩⟩
                  · rw [hibn] at e
                    split at e
                    · exact .inr ⟨k2, _, _, .inr rfl, e2, rfl, o, e⟩
                    · exact .inr ⟨x, _, _, .inl rfl, e1, rfl, .inr ⟨i, o, e⟩⟩
                · rw [hm2] at hx; cases hx
                  simp [L.mut] at hmut
              · rintro x x' g1 g3 l1 l2 b1 (rfl | rfl) (rfl | rfl) hx hx' m1 m2 e e'
                · rfl
                · rw [hm2] at hx'; cases hx'; simp [L.mut] at m2
                · rw [hm2] at hx; cases hx; simp [L.mut] at m1
                · rfl
              · rintro x g0 l0 (rfl | rfl) hx
                · rw [e1] at hx; cases hx
                  refine ⟨g, _, hm1, Nat.le_refl _, fun _ => ?_⟩
                  rw [hG1, hnw]
                  refine ⟨fun p v ⟨b, off, n', q1, q2, q3⟩ => ⟨b, off, n', q1, by simpa using q2, by rw [hb1]; exact q3⟩, by simp only [hdrOf, hhdr], fun _ _ _ h => h.elim, fun h1 n1 v1 h => ⟨by have := h.1; omega, fun e => by have := h.1; omega⟩, fun h1 n1 p1 v1 h => ⟨by have := h.1; omega, fun e => by have := h.1; omega⟩⟩
                · rw [e2] at hx; cases hx
                  exact ⟨_, _, hm2, by omega, fun e => by omega⟩
            have he := hch.ext hm
            have hr := hch.rel hm (by
              rintro x g1 l1 (rfl | rfl) hx
              · rw [hm1] at hx; cases hx
                rw [hnw] at he ⊢
                unfold LRep
                rw [hG1, hhdr, hb1]
                refine ⟨vs.set n vv, .inr ⟨b, off, cap, _, e, h1, by simpa using h2, h3, setRow_heap w _ cur _ e _ h4, by simpa using h5, by simpa using h12, ?_, ?_⟩, by simpa using a2, fun i v hi => ?_, fun i xs' hi hne => ?_, fun i hi => ?_, fun i i' b1 o o' q1 q2 => ?_, fun i b1 o o' q1 => ?_⟩
                · simp only [List.size_toArray, List.length_append, List.length_take, List.length_drop, Array.length_toList, List.length_singleton]; omega
                · rw [List.length_set, List.toList_toArray]
                  have e2 := mput_spec.splice_in2 cur.toList [vv] off (vs.length * 1) n (by simp; omega) (by simp; omega)
                  rw [e2]
                  have hset := hset
                  rw [Nat.mul_one] at hset
                  simpa using hset
                · rw [List.getElem?_set] at hi
                  rw [hih]
                  by_cases en : n = i
                  · subst en
                    rw [if_pos rfl, if_pos (by omega)] at hi
                    cases hi
                    rw [if_pos rfl]
                    exact .inl hv
                  · rw [if_neg en] at hi
                    rw [if_neg (Ne.symm en)]
                    exact (a3 i v hi).imp id (ho3 i (Ne.symm en))
                · rw [List.getElem?_set] at hi
                  rw [hih, hibn]
                  by_cases en : n = i
                  · subst en
                    rw [if_pos rfl, if_pos hlt] at hi
                    cases hi
                    rw [if_pos rfl, if_pos rfl]
                    exact hl2.ext (fun b1 o1 q => setRow_other w b b1 _ fun e => dj b1 (.inl ⟨off, by rw [e]; exact h1⟩) o1 q) fun _ _ h => he.c (c_and h (by simp_all))
                  · rw [if_neg en] at hi
                    rw [if_neg (Ne.symm en), if_neg (Ne.symm en)]
                    exact (a4 i xs' hi (fun e => hne (ho3 i (Ne.symm en) e))).ext (fun b1 o1 q => setRow_other w b b1 _ fun e => a7 i b1 o1 off q (by rw [e]; exact h1)) fun _ _ h => he.c (c_and h (by simp_all))
                · rw [hibn]
                  have : i ≠ n := by
                    rintro rfl
                    rcases hi with hi | hi
                    · rw [List.length_set] at hi; omega
                    · exact ho1 hi
                  rw [if_neg this]
                  exact a5 i (hi.imp (fun h => by simpa using h) (ho2 i))
                · rw [hibn] at q1 q2
                  split at q1 <;> split at q2
                  · omega
                  · exact (dj b1 (.inr ⟨i', o', q2⟩) o q1).elim
                  · exact (dj b1 (.inr ⟨i, o, q1⟩) o' q2).elim
                  · exact a6 i i' b1 o o' q1 q2
                · rw [hibn] at q1
                  split at q1
                  · exact fun q2 => dj b1 (.inl ⟨o', q2⟩) o q1
                  · exact a7 i b1 o o' q1
              · rw [hm2] at hx; cases hx
                unfold LRep
                trivial)
            rw [hnw] at hr he
            refine ⟨w.setRow b (cur.toList.take (off + n) ++ [vv] ++ cur.toList.drop (off + n + [vv].length)).toArray, ?_, _, hr, he, rfl⟩
            show (Instr.storeAt t _ (mkV (.sl t2) [vv])).run P w = _
            simp only [Instr.storeAt, Instr.sureAddr, Sem.run_bind, Sem.run_pure, Result.andThen_ok, hh', hst]
        · cases h
      · cases h
    · cases h
  · cases h

theorem aStoreN_ok {k0 : Nat} (hm : MRel P B G m w w0) (hs : Sub (only m' k0) m) {t : TypeId} {u : T} (hu : (tys P u).ty t) {g : Nat} {p : List Stp} {f f0 : Bool} {y : u.den} {e : Eff} (h : aStoreN k0 g p m' u f y [] = some e) (hpre : e.pre) {va : Value} {cy : List Value}
    (ha : ERep P B G m w (.ptr k0 g p) va) (hc : (reps P u).c w (dS B G m f0) y cy) (hf : f = false ∨ f0 = true ∨ u.flat = true) :
    ∃ w', (Instr.storeAt t va (mkV u cy)).run P w = .ok () w' ∧ Post P B w0 G m w e undef w' := by
  unfold aStoreN at h
  split at h
  · rename_i g1 f' a x e1
    split at h
    · rename_i hg
      simp only [Bool.and_eq_true] at hg
      split at h
      · rename_i b y
        split at h
        · rename_i hb
          cases h
          obtain rfl := T.beq_eq hb
          obtain rfl := Nat.eq_of_beq_eq_true hg.1
          have e1 : m k0 = some (g, .box f' (.nsl b) x) := hs _ _ (by unfold only; rw [if_pos rfl]; exact e1)
          obtain ⟨gA, lA, hA, _, ha⟩ := ha
          rw [e1] at hA; cases hA
          obtain ⟨bb, o, q1, q2, q3, rfl⟩ := ha rfl
          rw [off_nil] at q2; cases q2
          obtain ⟨bb', cur, ee, h1, h2, h3, h4, h5⟩ := hm.loc k0 _ _ e1
          rw [h1] at q1; cases q1
          have hl5 := c_len _ h5
          have hlc := c_len _ hc
          have hst := run_storeVar hu hc h4 (o := 0) (by rw [← Array.length_toList, hl5, hlc]; simp [T.csize])
          have hc1 : (reps P (.nsl b)).c w (dS B G m (f' && f)) y cy := by
            have hc1 : (reps P (.sl b)).c w (dS B G m (f' && f)) y cy := by
              cases h1 : (f' && f)
              · exact c_and hc (fun _ => rfl)
              · have hf1 : f = true := by cases f <;> simp_all
                rcases hf with h | h | h
                · rw [hf1] at h; cases h
                · subst h; exact c_and hc (by simp)
                · simp [T.flat] at h
            obtain ⟨v, e, h⟩ := hc1
            exact ⟨v, e, h, fun e => absurd e hpre⟩
          have e6 : (cur.toList.take 0 ++ cy ++ cur.toList.drop (0 + cy.length)) = cy := by
            rw [List.take_zero, List.nil_append, List.drop_of_length_le (by rw [hl5, hlc]; simp [T.csize]), List.append_nil]
          rw [e6] at hst
          have hch := Chg.row hm e1 rfl h4 ⟨0, h1⟩ (l' := .box (f' && f) (.nsl b) y) (LExt.box (t := .nsl b) (f := f') (f' := f' && f) (x := x) (x' := y)) (fun _ h => h) cy.toArray
          have he := hch.ext hm
          have hl := hch.rel hm ⟨bb, _, ee, by rw [setG_self]; exact h1, by rw [setG_self]; exact h2, h3, setRow_heap w bb cur _ ee _ h4, by rw [List.toList_toArray]; exact he.c hc1⟩
          rw [setG_self] at he hl
          exact ⟨_, by simp [Instr.storeAt, Instr.sureAddr] at hst ⊢; exact hst, G, hl, he, rfl⟩
        · cases h
      · cases h
    · cases h
  · cases h

theorem aStore_ok (hk : Cok P cx) (hm : MRel P B G m w w0) (hs : Sub m' m) {t : TypeId} {a v : V} {e : Eff} (h : aStore cx t m' a v = some e) (hpre : e.pre) {va vv : Value} (ha : ERep P B G m w a va) (hv : ERep P B G m w v vv) :
    ∃ w', (Instr.storeAt t va vv).run P w = .ok () w' ∧ Post P B w0 G m w e undef w' := by
  unfold aStore at h
  split at h
  · cases h
  · rename_i u hu
    split at h
    · rename_i k g p
      split at h
      · split at h
        · exact aMoveIn_ok hm hs (hk.Θ _ _ hu) h hpre ha hv
        · cases h
      · split at h
        · rename_i f y us hst
          have hsub : us.all (fun e => !(Nat.beq e.1 k)) = true → Sub (only m' k) (putLoc m us) := by
            intro hall
            have hne : (putLoc m us) k = m k := by
              rcases stor_keep hst with rfl | ⟨k2, g2, l2, rfl⟩
              · rfl
              · simp at hall
                exact set1_other m g2 l2 (fun e => by subst e; simp at hall)
            intro n x hx
            unfold only at hx
            split at hx
            · rename_i hn; subst hn; rw [hne]; exact hs _ _ hx
            · cases hx
          split at h
          · rename_i g' l hp
            split at h
            · rename_i hall
              cases h
              obtain ⟨r1, r2, cs, rfl, hc⟩ := stor_spec hk hm hs hst hv
              rw [← mput_only] at hp
              obtain ⟨w', s1, s2, s3⟩ := mput_spec r1 (hsub hall) hp (ha.ext r2) (hk.Θ _ _ hu) (f0 := f) hc (by cases f <;> simp_all)
              exact ⟨w', s1, Post.seq r2 ⟨G, s2, s3, trivial⟩⟩
            · cases h
          · obtain ⟨r1, r2, cs, rfl, hc⟩ := stor_spec hk hm hs hst hv
            have hx : us.all (fun e => !(Nat.beq e.1 k)) = true ∧ ∃ pr V u2, aStoreN k g p m' u (f || u.flat) y [] = some ⟨pr, V, u2⟩ ∧ e = ⟨pr, V, us ++ u2⟩ := by
              unfold aStoreN at h
              split at h
              · rename_i g1 f' a x e1 _
                split at h
                · rename_i hg
                  simp only [Bool.and_eq_true] at hg
                  refine ⟨hg.2, ?_⟩
                  unfold aStoreN
                  rw [e1]
                  simp only [hg.1, List.all_nil, Bool.and_self]
                  split at h
                  · rename_i b y
                    split at h
                    · rename_i hb
                      cases h
                      exact ⟨_, _, _, dif_pos hb, rfl⟩
                    · cases h
                  · cases h
                · cases h
              · cases h
            obtain ⟨hall, pp, V, u2, hN, rfl⟩ := hx
            obtain ⟨w', s1, s2⟩ := aStoreN_ok r1 (hsub hall) (hk.Θ _ _ hu) hN hpre (ha.ext r2) hc (by cases f <;> simp_all)
            exact ⟨w', s1, Post.seq r2 s2⟩
        · cases h
    · rename_i k g hh n p
      split at h
      · rename_i f y hst
        split at h
        · rename_i g' l hp
          cases h
          obtain ⟨r1, r2, cs, rfl, hc⟩ := stor_spec hk hm hs hst hv
          obtain ⟨w', s1, s2, s3⟩ := iput_spec hm hs hp ha (hk.Θ _ _ hu) (f0 := f) hc (by cases f <;> simp_all)
          exact ⟨w', s1, G, s2, s3, trivial⟩
        · cases h
      · cases h
    · cases h

/-! ### min, max -/
theorem aMinGo_ok (f : Int → Int → Int) (F : Value → Value → Sem Value) (hF : ∀ x y (w : World), (F (.int .i64 x) (.int .i64 y)).run P w = .ok (.int .i64 (f x y)) w) (hf : ∀ x y, f x y = x ∨ f x y = y) :
    ∀ (l : List V) (k : List Value) (x : Int) (r : V), inI x → ERs P B G m w l k → aMinGo f x l = some r → ∃ n, inI n ∧ r = .d true .int n ∧ (k.foldlM F (.int .i64 x)).run P w = .ok (.int .i64 n) w
  | [], [], x, r, hx, _, h => by cases h; exact ⟨x, hx, rfl, rfl⟩
  | [], _ :: _, _, _, _, h, _ => h.elim
  | _ :: _, [], _, _, _, h, _ => h.elim
  | p :: l, v :: k, x, r, hx, ⟨h1, h2⟩, h => by
    cases p with
    | d f2 t y =>
      cases t with
      | int =>
        obtain ⟨cs, rfl, rfl, hy⟩ := h1
        have hxy : inI (f x y) := by rcases hf x y with e | e <;> rw [e] <;> assumption
        obtain ⟨n, a, b, c⟩ := aMinGo_ok f F hF hf l k _ r hxy h2 h
        exact ⟨n, a, b, by simp only [List.foldlM_cons, Sem.run_bind]; rw [show mkV .int [.int .i64 y] = .int .i64 y from rfl, hF]; exact c⟩
      | _ => simp [aMinGo] at h
    | _ => simp [aMinGo] at h

theorem aMin_ok (hm : MRel P B G m w w0) (f : Int → Int → Int) (F : Value → Value → Sem Value) (hF : ∀ x y (w : World), (F (.int .i64 x) (.int .i64 y)).run P w = .ok (.int .i64 (f x y)) w) (hf : ∀ x y, f x y = x ∨ f x y = y) {l : List V} {k : List Value} {r : V} (h : aMin f l = some r) (hl : ERs P B G m w l k) :
    ∃ x k' v, k = x :: k' ∧ (k'.foldlM F x).run P w = .ok v w ∧ Post P B w0 G m w ⟨True, r, []⟩ v w := by
  unfold aMin at h
  split at h
  · rename_i f1 x l'
    cases k with
    | nil => exact hl.elim
    | cons v k =>
      obtain ⟨⟨cs, rfl, rfl, hx⟩, h2⟩ := hl
      obtain ⟨n, a, rfl, c⟩ := aMinGo_ok f F hF hf _ k x r hx h2 h
      exact ⟨_, k, _, rfl, c, Post.eff hm (int_rep a)⟩
  · cases h

theorem min2_run (x y : Int) (w : World) : (Builtin.min2 (.int .i64 x) (.int .i64 y)).run P w = .ok (.int .i64 (min x y)) w := by
  simp only [Builtin.min2, Sem.run_pure]
  congr 2
  split <;> omega

theorem max2_run (x y : Int) (w : World) : (Builtin.max2 (.int .i64 x) (.int .i64 y)).run P w = .ok (.int .i64 (max x y)) w := by
  simp only [Builtin.max2, Sem.run_pure]
  congr 2
  split <;> omega

/-! ### Calls -/
theorem dS_false {f : Bool} {b : Nat} (h : dS B G m f b) : dS B G m false b := ⟨⟨fun e => (by cases e), h.1.2⟩, h.2⟩

theorem gather_spec (hk : Cok P cx) (hm : MRel P B G m w w0) (hs : Sub m' m) {S : Nat → Prop} (hS : ∀ b, dS B G m false b → S b) : ∀ (A : T) (vs : List V) (vals : List Value) (x : A.den), gather cx.Γ m' A vs = some x → ERs P B G m w vs vals →
    (∀ v ∈ vs, ∀ k, v.loc? = some k → ∀ l g', m k = some (g', l) → l.mut = true → ∀ b, ownL (G k) l b → S b) → (reps P A).v w S x vals []
  | .nil, [], [], x, h, _, _ => ⟨rfl, rfl⟩
  | .nil, [], _ :: _, _, _, h, _ => h.elim
  | .nil, _ :: _, _, _, h, _, _ => by simp [gather] at h
  | .cons a b, [], _, _, h, _, _ => by simp [gather] at h
  | .cons a b, v :: vs, [], _, _, h, _ => h.elim
  | .cons a b, v :: vs, u :: us, x, h, ⟨h1, h2⟩, h3 => by
    unfold gather at h
    split at h
    · rename_i f y ha
      split at h
      · rename_i z hz
        cases h
        obtain ⟨cs, rfl, hc⟩ := asD_gen hk hm hs ha h1 (S := S) (fun b _ hb => hS b (dS_false hb)) (h3 v (by simp))
        exact ⟨_, us, [], [], rfl, rfl, o_of_c hc, gather_spec hk hm hs hS b vs us z hz h2 (fun v hv => h3 v (by simp [hv]))⟩
      · cases h
    · cases h
  | .int, _, _, _, h, _, _ => by simp [gather] at h
  | .bool, _, _, _, h, _, _ => by simp [gather] at h
  | .sl _, _, _, _, h, _, _ => by simp [gather] at h
  | .osl _, _, _, _, h, _, _ => by simp [gather] at h
  | .ref _, _, _, _, h, _, _ => by simp [gather] at h
  | .arr _ _, _, _, _, h, _, _ => by simp [gather] at h
  | .fn _ _, _, _, _, h, _, _ => by simp [gather] at h
  | .nsl _, _, _, _, h, _, _ => by simp [gather] at h
  | .seq _ _, _, _, _, h, _, _ => by simp [gather] at h

theorem capV_spec : ∀ (t : T) (x : t.den) (vs : List Value), t.noOwn = true → (reps P t).v w (dS B G m false) x vs [] → ERs P B G m w (capV t x) vs
  | .nil, _, _, _, ⟨e, _⟩ => by subst e; trivial
  | .cons a b, x, _, hn, ⟨v, vs', b1, b2, e, e2, h1, h2⟩ => by
    obtain ⟨rfl, rfl⟩ := List.append_eq_nil_iff.1 e2.symm
    subst e
    cases a
    case osl s => simp [T.noOwn] at hn
    all_goals exact ⟨h1.2, capV_spec b x.2 vs' (by simpa [T.noOwn] using hn) h2⟩
  | .int, _, _, h, _ => by simp [T.noOwn] at h
  | .bool, _, _, h, _ => by simp [T.noOwn] at h
  | .sl _, _, _, h, _ => by simp [T.noOwn] at h
  | .osl _, _, _, h, _ => by simp [T.noOwn] at h
  | .ref _, _, _, h, _ => by simp [T.noOwn] at h
  | .arr _ _, _, _, h, _ => by simp [T.noOwn] at h
  | .fn _ _, _, _, h, _ => by simp [T.noOwn] at h
  | .nsl _, _, _, h, _ => by simp [T.noOwn] at h
  | .seq _ _, _, _, h, _ => by simp [T.noOwn] at h

theorem restV_spec {f : Bool} {S : Nat → Prop} (hS : ∀ b, b < w.heap.size → S b → dS B G m f b) : ∀ (R : T) (y : R.den) (vs : List Value) (bs : List Nat), (reps P R).v w S y vs bs → ERs P B G m w (restV f R y) vs
  | .nil, _, _, _, ⟨e, _⟩ => by subst e; trivial
  | .cons a b, y, _, _, ⟨v, vs', b1, b2, e, e2, h1, h2⟩ => by
    subst e
    refine ⟨?_, restV_spec hS b y.2 vs' b2 h2⟩
    cases a
    case osl s => trivial
    all_goals (obtain ⟨_, cs, e, hc⟩ := h1; exact ⟨cs, e, c_mono _ hc hS⟩)
  | .int, _, _, _, h => h.elim
  | .bool, _, _, _, h => h.elim
  | .sl _, _, _, _, h => h.elim
  | .osl _, _, _, _, h => h.elim
  | .ref _, _, _, _, h => h.elim
  | .arr _ _, _, _, _, h => h.elim
  | .fn _ _, _, _, _, h => h.elim
  | .nsl _, _, _, _, h => h.elim
  | .seq _ _, _, _, _, h => h.elim

theorem packV_spec : ∀ {vs : List V} {rs : List Value}, ERs P B G m w vs rs → ERep P B G m w (packV vs) (mkRes rs)
  | [], [], _ => ⟨[], rfl, rfl, fun i u h => by simp at h⟩
  | [v], [r], h => h.1
  | v :: v2 :: vs, r :: r2 :: rs, h => by
    refine ⟨r :: r2 :: rs, rfl, h.len.symm, ?_⟩
    have key : ∀ (vs : List V) (rs : List Value), ERs P B G m w vs rs → ∀ i u, rs[i]? = some u → ERep P B G m w (tupV vs i) u := by
      intro vs
      induction vs with
      | nil => intro rs h i u hu; trivial
      | cons v vs ih =>
        intro rs h i u hu
        cases rs with
        | nil => exact h.elim
        | cons r rs =>
          cases i with
          | zero => simp at hu; subst hu; exact h.1
          | succ i => exact ih rs h.2 i u (by simpa using hu)
    exact key _ _ h
  | [], _ :: _, h => h.elim
  | _ :: _, [], h => h.elim
  | [_], _ :: _ :: _, h => h.2.elim
  | _ :: _ :: _, [_], h => h.2.elim

theorem res_post (hm : MRel P B G m w w0) {w' : World} (hb : Below w.heap.size w w') {al : Bool} {S : Nat → Prop} (hS : al = true → ∀ b, S b → dS B G m false b) {R : T} {y : R.den} {rs : List Value} {bs : List Nat}
    (hv : (reps P R).v w' (fun b => (w.heap.size ≤ b ∨ (al = true ∧ S b)) ∧ b ∉ bs) y rs bs) (hn : ∀ b ∈ bs, w.heap.size ≤ b) {dst : Option Nat} (hd : ∀ d, dst = some d → m' d = m d) {p : Prop} :
    Post P B w0 G m w ⟨p, (resV m' (!al) R y dst).1, (resV m' (!al) R y dst).2⟩ (mkRes rs) w' := by
  have old : ∀ (b : Nat), ((w.heap.size ≤ b ∨ (al = true ∧ S b)) ∧ b ∉ bs) → dS B G m (!al) b := by
    rintro b ⟨h1, _⟩
    rcases h1 with h1 | ⟨rfl, h1⟩
    · refine ⟨⟨fun _ => Nat.le_trans hm.base h1, .inl (Nat.le_trans hm.base h1)⟩, fun k g l hk hmut e => ?_, fun hT => ?_⟩
      · have := ((hm.loc k g l hk).blk_lt hmut e).1
        omega
      · have := (hm.frn.1 b (.inl hT)).1
        omega
    · exact hS rfl b h1
  have plain : Post P B w0 G m w ⟨p, packV (restV (!al) R y), []⟩ (mkRes rs) w' := by
    obtain ⟨g1, g2⟩ := hm.grow hb
    exact ⟨G, g1, g2, packV_spec (restV_spec (fun b _ h => old b h) R y rs bs hv)⟩
  unfold resV
  cases R with
  | cons a b =>
    cases a
    case osl s =>
      cases dst with
      | none => exact plain
      | some id =>
        obtain ⟨v, vs', b1, b2, rfl, rfl, ⟨ob, ho, rfl⟩, h2⟩ := hv
        have hob : ∀ b o, ob = some (b, o) → w.heap.size ≤ b := fun b o e => hn b (by simp [e])
        have hch := Chg.new (B := B) (G := G) (m := m) id (gh v ob) (.sl (!al) s y.1) hb (fun b ⟨o, e⟩ => hob b o e)
        have he := hch.ext hm
        have hS' : ∀ b, ((w.heap.size ≤ b ∨ (al = true ∧ S b)) ∧ b ∉ (ob.map (·.1)).toList ++ b2) → dS B (setG G id (gh v ob)) (set1 m id (nx m id) (.sl (!al) s y.1)) (!al) b := by
          intro b h
          refine ⟨(old b h).1, fun k g l hk hmut e => ?_, (old b h).2.2⟩
          rcases set1_cases hk with ⟨rfl, e1⟩ | ⟨hne, hk⟩
          · cases e1
            rw [setG_same] at e
            obtain ⟨o, e⟩ := e
            have e : ob = some (b, o) := e
            exact h.2 (by simp [e])
          · rw [setG_other _ _ hne] at e
            exact (old b h).2.1 k g l hk hmut e
        have hr := hch.rel hm (by
          unfold LRep
          rw [setG_same]
          rcases ho with h | ⟨b, off, cap, cur, e, h1, h2, h3, h4, h5, h6, h7, h8⟩
          · exact .inl h
          · exact .inr ⟨b, off, cap, cur, e, h1, h2, Nat.le_trans hm.base (hob b off h1), h4, h5, h6, h7, repL_mono (fun _ _ h => c_mono _ h (fun b _ hb => hS' b hb)) _ _ h8⟩)
        show Post P B w0 G m w ⟨p, packV (.own id (nx m' id) :: restV (!al) b y.2), [(id, nx m' id, .sl (!al) s y.1)]⟩ (mkRes (v :: vs')) w'
        rw [nx_eq (hd id rfl)]
        refine ⟨_, hr, he, packV_spec ⟨⟨_, _, set1_same .., Nat.le_refl _, fun _ => by rw [setG_same]; rfl⟩, restV_spec (fun b _ h => hS' b h) b y.2 vs' b2 h2⟩⟩
    all_goals exact plain
  | _ => exact plain

theorem isMut_spec (hs : Sub m' m) {v : V} {k : Nat} (h : isMut m' v = false) (hv : v.loc? = some k) {l : L} {g' : Nat} (hk : m k = some (g', l)) : l.mut = false := by
  unfold isMut at h
  cases v <;> simp only [V.loc?] at hv <;> try cases hv
  · simp only at h
    split at h
    · rename_i g2 l2 e
      have := hs _ _ e
      rw [hk] at this; cases this; exact h
    · cases h
  · cases h

theorem capV_data : ∀ (t : T) (x : t.den), ∀ v ∈ capV t x, ∀ k (g : Nat), v.loc? ≠ some k
  | .cons a b, x, v, hv, k, g => by
    simp only [capV, List.mem_cons] at hv
    rcases hv with rfl | hv
    · simp [V.loc?]
    · exact capV_data b x.2 v hv k g
  | .nil, _, _, h, _, _ => by simp [capV] at h
  | .int, _, _, h, _, _ => by simp [capV] at h
  | .bool, _, _, h, _, _ => by simp [capV] at h
  | .sl _, _, _, h, _, _ => by simp [capV] at h
  | .osl _, _, _, h, _, _ => by simp [capV] at h
  | .ref _, _, _, h, _, _ => by simp [capV] at h
  | .arr _ _, _, _, h, _, _ => by simp [capV] at h
  | .fn _ _, _, _, h, _, _ => by simp [capV] at h
  | .nsl _, _, _, h, _, _ => by simp [capV] at h
  | .seq _ _, _, _, h, _, _ => by simp [capV] at h

theorem run_enter {g : FuncId} (h : FunOK P g) (args : Array Value) : (callFunc g args).run P w = .ok (.enter g args) w := by
  obtain ⟨fn, h1, h2, h3⟩ := h
  have h4 : fn.name ≠ "runtime.NumGoroutine" := by simpa using h2
  cases hb : fn.body with
  | none => rw [hb] at h3; simp at h3
  | some c => simp [callFunc, h1, h4, hb]

theorem isMutL_spec (hs : Sub m' m) {v : V} {k : Nat} (h : isMutL m' v = false) (hv : v.loc? = some k) {l : L} {g' : Nat} (hk : m k = some (g', l)) : l.mut = false := by
  unfold isMutL at h
  cases v <;> simp only [V.loc?] at hv <;> try cases hv
  · simp only at h
    split at h
    · rename_i g2 l2 e
      have := hs _ _ e
      rw [hk] at this; cases this; exact h
    · cases h
  · cases h

/-- A call that changes an own slice. -/
theorem aInp_ok (hk : Cok P cx) (hm : MRel P B G m w w0) (hs : Sub m' m) {g k g0 : Nat} {rest : List V} {e : Eff} (h : aInp cx m' g k g0 rest = some e) (hpre : e.pre) {vk : Value} {vrest : List Value} (hown : ERep P B G m w (.own k g0) vk) (hrest : ERs P B G m w rest vrest) :
    FunOK P g ∧ Calls P g (vk :: vrest).toArray w fun en w' => ∃ v, en = .returned v ∧ Post P B w0 G m w e v w' := by
  unfold aInp at h
  split at h
  · cases h
  · rename_i c hc
    obtain ⟨hF, hI⟩ := hk.X.inp _ _ hc
    refine ⟨hF, ?_⟩
    split at h
    · rename_i g1 f t xs e1
      split at h
      · rename_i hb
        split at h
        · rename_i hg
          rw [Bool.and_eq_true] at hg
          split at h
          · rename_i x hga
            have hkk := hs _ _ e1
            obtain ⟨ta, tB, tpre, tF, tret⟩ := c
            obtain rfl : t = ta := T.beq_eq hb
            obtain ⟨g2, l, e2, hle, hx⟩ := hown
            rw [hkk] at e2
            cases e2
            have hvk : vk = (G k).hdr := hx (Nat.eq_of_beq_eq_true hg.1)
            have hl : repOwn ((reps P t).c w (dS B G m f)) t.csize w (fun b => B.n ≤ b) xs (G k).hdr (G k).blk := hm.loc k _ _ hkk
            have hmut : (!(rest.any (isMutL m'))) = true := hg.2
            have hmut' : rest.any (isMutL m') = false := by simpa using hmut
            have hargs := gather_spec hk hm hs (S := dS B G m false) (fun _ h => h) tB rest vrest x hga hrest (by
              intro v hv k' e' l' g' hmk hm' b hb'
              have := isMutL_spec hs (by simpa using (List.any_eq_false.1 hmut' _ hv)) e' hmk
              rw [this] at hm'; cases hm')
            have hnd : ∀ b o, (G k).blk = some (b, o) → ¬ dS B G m false b := fun b o e q => q.2.1 k _ _ hkk rfl ⟨o, e⟩
            have hl0 : repOwn ((reps P t).c w (dS B G m false)) t.csize w (fun _ => True) xs (G k).hdr (G k).blk := hl.keep (Keep.refl _ _) (fun _ _ _ => trivial) (fun _ _ h => c_mono t h fun b _ hb => dS_false hb)
            have hp : tpre xs x := by
              split at h <;> (cases h; exact hpre)
            refine (hI w (dS B G m false) xs x vk (G k).blk vrest (by rw [hvk]; exact hl0) hnd hargs hp).mono ?_
            rintro en w' ⟨v', ob', hen, hres, hob, hbut⟩
            obtain ⟨gn, hgn⟩ : ∃ gn, gn = (match tret with | true => g1 + 1 | false => g1) := ⟨_, rfl⟩
            have hgle : g1 ≤ gn := by cases tret <;> simp only at hgn <;> omega
            have hsame : g1 = gn → v' = (G k).hdr ∧ ob' = (G k).blk ∧ xs.length = (tF xs x).length := by
              intro q
              cases tret
              · obtain ⟨_, r1, r2⟩ := hen
                rw [hvk] at r1
                refine ⟨r1, r2, ?_⟩
                rw [r1] at hres
                rcases hl with ⟨a1, a2, _⟩ | ⟨bb, off, cap, cur, ee, _, a2, _⟩
                · rcases hres with ⟨_, b2, _⟩ | ⟨bb, off, cap, cur, ee, _, b2, _⟩
                  · have b2 : tF xs x = [] := b2
                    rw [a2, ← a2, b2, a2]
                  · rw [a1] at b2; cases b2
                · rcases hres with ⟨b1, _, _⟩ | ⟨bb', off', cap', cur', ee', _, b2, _⟩
                  · rw [b1] at a2; cases a2
                  · rw [a2] at b2
                    injection b2
              · simp only at hgn; omega
            have hch : Chg B G m w k gn (gh v' ob') (.sl (f && t.flat) t (tF xs x)) w' := by
              refine ⟨hbut.os, hbut.tape, hbut.output, hbut.size, fun i hi hn => hbut.block i hi fun o e => hn _ _ hkk rfl ⟨o, e⟩, fun _ b ⟨o, e⟩ => ?_, fun g0 l0 e => ?_, fun b o e hn => ?_⟩
              · rcases hob b o e with q | ⟨o', q⟩
                · exact .inl q
                · exact .inr ⟨_, _, hkk, rfl, ⟨o', q⟩⟩
              · rw [hkk] at e; cases e
                refine ⟨hgle, fun q => ?_⟩
                obtain ⟨s1, s2, s3⟩ := hsame q
                subst s1; subst s2
                refine ⟨fun p v h => ?_, rfl, fun lo hi v h => ?_, fun _ _ _ h => h.elim, fun _ _ _ _ h => h.elim⟩
                · obtain ⟨b, off, o, n, p', r1, r2, r3⟩ := h
                  exact ⟨b, off, o, n, p', r1, s3 ▸ r2, r3⟩
                · obtain ⟨r1, r2, ao, cap, r3, r4, r5⟩ := h
                  exact ⟨r1, s3 ▸ r2, ao, cap, by rw [← s3]; exact r3, by rw [← s3]; exact r4, r5⟩
              · rw [hbut.block b (Array.getElem?_eq_some_iff.1 e).1 fun o' q => hn ?_]
                · exact e
                · rcases hl with ⟨_, _, q3⟩ | ⟨bb, off, cap, cur, ee, q1, q2, q3, q4, q5⟩
                  · rw [q3] at q; cases q
                  · rw [q1] at q; cases q
                    exact ⟨_, _, _, q4⟩
            have hll := hch.rel hm (by
              unfold LRep
              rw [setG_same]
              show repOwn ((reps P t).c w' (dS B (setG G k (gh v' ob')) (set1 m k gn (.sl (f && t.flat) t (tF xs x))) (f && t.flat))) t.csize w' (fun b => B.n ≤ b) (tF xs x) v' ob'
              have hn : ∀ b o, ob' = some (b, o) → B.n ≤ b := by
                intro b o e
                rcases hob b o e with q | ⟨o', q⟩
                · exact Nat.le_trans hm.base q
                · rcases hl with ⟨_, _, q3⟩ | ⟨bb, off, cap, cur, ee, r1, _, r3, _⟩
                  · rw [q3] at q; cases q
                  · rw [r1] at q; cases q; exact r3
              have hd : ∀ b, (dS B G m false b ∨ w.heap.size ≤ b) → (∀ o, ob' ≠ some (b, o)) → dS B (setG G k (gh v' ob')) (set1 m k gn (.sl (f && t.flat) t (tF xs x))) false b := by
                intro b hb hno
                refine ⟨⟨fun e => (by cases e), ?_⟩, fun n gn ln hn hmn ho => ?_, ?_⟩
                · rcases hb with hb | hb
                  · exact hb.1.2
                  · exact .inl (Nat.le_trans hm.base hb)
                · rcases set1_cases hn with ⟨rfl, q⟩ | ⟨hne, hn⟩
                  · cases q
                    rw [setG_same] at ho
                    obtain ⟨o, ho⟩ := ho
                    exact hno o ho
                  · rw [setG_other G _ hne] at ho
                    rcases hb with hb | hb
                    · exact hb.2.1 n _ _ hn hmn ho
                    · have := ((hm.loc n _ _ hn).own_lt hmn ho).1; omega
                · rcases hb with hb | hb
                  · exact hb.2.2
                  · intro q
                    have := (hm.frn.1 b (.inl q)).1; omega
              have hel : ∀ (y : t.den) cs, (reps P t).c w' (fun b => (dS B G m false b ∨ w.heap.size ≤ b) ∧ ∀ o, ob' ≠ some (b, o)) y cs → (reps P t).c w' (dS B (setG G k (gh v' ob')) (set1 m k gn (.sl (f && t.flat) t (tF xs x))) (f && t.flat)) y cs := by
                intro y cs hy
                cases hfl : t.flat
                · rw [hfl] at hd
                  rw [Bool.and_false] at hd ⊢
                  exact c_mono t hy fun b _ hb => hd b hb.1 hb.2
                · exact c_flat t hfl hy
              rcases hres with ⟨q1, q2, q3⟩ | ⟨bb, off, cap, cur, ee, q1, q2, q3, q4, q5, q6, q7, q8⟩
              · exact .inl ⟨q1, q2, q3⟩
              · exact .inr ⟨bb, off, cap, cur, ee, q1, q2, hn _ _ q1, q4, q5, q6, q7, repL_mono hel _ _ q8⟩)
            have hex := hch.ext hm
            cases tret
            · obtain ⟨⟨u, hu⟩, _, _⟩ := hen
              simp only at hgn
              subst hgn
              cases h
              exact ⟨u, hu, _, hll, hex, trivial⟩
            · have hen : en = .returned v' := hen
              simp only at hgn
              subst hgn
              cases h
              refine ⟨v', hen, _, hll, hex, ⟨_, _, set1_same .., Nat.le_refl _, fun _ => ?_⟩⟩
              rw [setG_same]; rfl
          · cases h
        · cases h
      · cases h
    · cases h

theorem aCall_ok (hk : Cok P cx) (hm : MRel P B G m w w0) (hs : Sub m' m) {dst : Option Nat} (hd : ∀ d, dst = some d → m' d = m d) {f : V} {args : List V} {e : Eff} (h : aCall cx dst m' f args = some e) (hpre : e.pre) {vf : Value} {vals : List Value} (hf : ERep P B G m w f vf) (ha : ERs P B G m w args vals) :
    ∃ g argv, (do let d ← Deferred.ofValue vf vals.toArray; invoke d.target d.args : Sem Next).run P w = .ok (.enter g argv) w ∧ Calls P g argv w fun en w' => ∃ v, en = .returned v ∧ Post P B w0 G m w e v w' := by
  unfold aCall at h
  split at h
  · rename_i g ct x
    split at h
    · cases h
    · rename_i hno
      split at h
      · rename_i con hg
        split at h
        · rename_i a hga
          split at h
          · cases h
          · rename_i hal
            cases h
            obtain ⟨caps, rfl, hc⟩ := hf
            refine ⟨g, (vals ++ caps).toArray, by simp [Deferred.ofValue, invoke, run_enter (hk.fn g con (lkF_some hg).1)], ?_⟩
            have hcv := capV_spec ct x caps hno hc
            have hall := ha.app hcv
            cases hcal : con.al
            · have hx := gather_spec hk hm hs (S := fun _ => True) (fun _ _ => trivial) con.A _ _ a hga hall (fun _ _ _ _ _ _ _ _ _ _ => trivial)
              refine (hk.fF hg w (fun _ => True) a (vals ++ caps) hx hpre).mono ?_
              rintro en w' ⟨rs, bs, rfl, h1, h2, h3, h4⟩
              refine ⟨_, rfl, ?_⟩
              rw [hcal] at h1
              exact res_post hm h4 (al := false) (S := fun _ => True) (fun e => by cases e) h1 h3 hd
            · rw [hcal] at hal
              have hal' : args.any (isMut m') = false := by simpa using hal
              have hx := gather_spec hk hm hs (S := dS B G m false) (fun _ h => h) con.A _ _ a hga hall (by
                intro v hv k e l g' hmk hmut b hb
                rcases List.mem_append.1 hv with hv | hv
                · have := isMut_spec hs (by simpa using (List.any_eq_false.1 hal' _ hv)) e hmk
                  rw [this] at hmut; cases hmut
                · exact absurd e (capV_data ct x _ hv k 0))
              refine (hk.fF hg w (dS B G m false) a (vals ++ caps) hx hpre).mono ?_
              rintro en w' ⟨rs, bs, rfl, h1, h2, h3, h4⟩
              refine ⟨_, rfl, ?_⟩
              rw [hcal] at h1
              exact res_post hm h4 (al := true) (S := dS B G m false) (fun _ _ h => h) h1 h3 hd
        · cases h
      · split at h
        · rename_i a b x0
          split at h
          · rename_i hmul
            cases h
            obtain ⟨caps, rfl, hc⟩ := hf
            obtain ⟨rfl, _⟩ := hc
            obtain ⟨p1, p2, p3, p4⟩ : 0 ≤ a ∧ a < 18446744073709551616 ∧ 0 ≤ b ∧ b < 18446744073709551616 := hpre
            obtain ⟨va, vb, rfl, rfl, rfl⟩ : ∃ va vb, vals = [va, vb] ∧ va = .int .u64 a ∧ vb = .int .u64 b := by
              match vals, ha with
              | [va, vb], ⟨h1, h2, _⟩ => exact ⟨va, vb, rfl, h1, h2⟩
            obtain ⟨hF, hM⟩ := hk.X.mul _ hmul
            obtain ⟨x, rfl⟩ := Int.eq_ofNat_of_zero_le p1
            obtain ⟨y, rfl⟩ := Int.eq_ofNat_of_zero_le p3
            refine ⟨g, #[.int .u64 x, .int .u64 y], by simp [Deferred.ofValue, invoke, run_enter hF], ?_⟩
            refine (hM x y w (by omega) (by omega)).mono ?_
            rintro en w' ⟨rfl, rfl⟩
            refine ⟨_, rfl, Post.eff hm ?_⟩
            refine ⟨_, rfl, rfl, fun i u hu => ?_⟩
            match i, hu with
            | 0, hu => cases hu; show _ = _; simp
            | 1, hu => cases hu; show _ = _; simp
          · cases h
        · rename_i k g0 rest _xn
          obtain ⟨caps, rfl, hc⟩ := hf
          obtain ⟨rfl, _⟩ := hc
          obtain ⟨vk, vrest, rfl, hown, hrest⟩ : ∃ vk vrest, vals = vk :: vrest ∧ ERep P B G m w (.own k g0) vk ∧ ERs P B G m w rest vrest := by
            match vals, ha with
            | vk :: vrest, ⟨h1, h2⟩ => exact ⟨vk, vrest, rfl, h1, h2⟩
          obtain ⟨hF, hcall⟩ := aInp_ok hk hm hs h hpre hown hrest
          refine ⟨g, (vk :: vrest).toArray, by simp [Deferred.ofValue, invoke, run_enter hF], hcall⟩
        · rename_i rest _
          split at h
          · rename_i con hcon
            split at h
            · rename_i a hga
              cases h
              obtain ⟨hF, hN⟩ := hk.X.nil _ _ hcon
              obtain ⟨caps, rfl, hc⟩ := hf
              obtain ⟨rfl, _⟩ := hc
              obtain ⟨vk, vrest, rfl, hnil, hrest⟩ : ∃ vk vrest, vals = vk :: vrest ∧ ERep P B G m w (.c (.slice none 0 0)) vk ∧ ERs P B G m w rest vrest := by
                match vals, ha with
                | vk :: vrest, ⟨h1, h2⟩ => exact ⟨vk, vrest, rfl, h1, h2⟩
              have hnil : vk = .slice none 0 0 := hnil
              subst hnil
              have hx := gather_spec hk hm hs (S := fun _ => True) (fun _ _ => trivial) con.A _ _ a hga hrest (fun _ _ _ _ _ _ _ _ _ _ => trivial)
              refine ⟨g, (Value.slice none 0 0 :: vrest).toArray, by simp [Deferred.ofValue, invoke, run_enter hF], ?_⟩
              refine (hN w (fun _ => True) a vrest hx hpre).mono ?_
              rintro en w' ⟨rs, bs, rfl, h1, h2, h3, h4⟩
              refine ⟨_, rfl, ?_⟩
              exact res_post hm h4 (al := false) (S := fun _ => True) (fun e => by cases e) (v_mono _ h1 fun b ⟨p, q⟩ => ⟨.inl p, q⟩) h3 hd
            · cases h
          · cases h
        · cases h
  · rename_i g ct x
    split at h
    · cases h
    · rename_i hno
      split at h
      · rename_i con hg
        split at h
        · cases h
        · rename_i hal
          split at h
          · rename_i a hga
            cases h
            obtain ⟨fs, rfl, hc⟩ := hf
            refine ⟨g, (fs ++ vals).toArray, by simp [Deferred.ofValue, invoke, run_enter (hk.fn g con (lkF_some hg).1)], ?_⟩
            have hcv := capV_spec ct x fs hno hc
            have hall := hcv.app ha
            have hx := gather_spec hk hm hs (S := fun _ => True) (fun _ _ => trivial) con.A _ _ a hga hall (fun _ _ _ _ _ _ _ _ _ _ => trivial)
            refine (hk.fF hg w (fun _ => True) a (fs ++ vals) hx hpre).mono ?_
            rintro en w' ⟨rs, bs, rfl, h1, h2, h3, h4⟩
            refine ⟨_, rfl, ?_⟩
            rw [hal] at h1
            exact res_post hm h4 (al := false) (S := fun _ => True) (fun e => by cases e) h1 h3 hd
          · cases h
      · cases h
  · rename_i fl a r F
    split at h
    · rename_i x hga
      cases h
      obtain ⟨cs, rfl, hc⟩ := hf
      have hx := gather_spec hk hm hs (S := fun _ => True) (fun _ _ => trivial) a _ _ x hga ha (fun _ _ _ _ _ _ _ _ _ _ => trivial)
      rcases hc with ⟨_, hno⟩ | ⟨g, caps, rfl, hfun, hfn⟩
      · exact absurd hpre (hno x)
      · refine ⟨g, (vals ++ caps).toArray, by simp [mkV, T.agg, Deferred.ofValue, invoke, run_enter hfun], ?_⟩
        refine (hfn w (Keep.refl _ _) _ x vals hx hpre).mono ?_
        rintro en w' ⟨rs, bs, rfl, h1, h2, h3, h4⟩
        refine ⟨_, rfl, ?_⟩
        refine res_post hm h4 (al := false) (S := fun _ => True) (fun e => by cases e) (v_mono r h1 (fun b h => ⟨.inl h.1, h.2⟩)) h3 hd
    · cases h
  · cases h

end

end Go.Tk
