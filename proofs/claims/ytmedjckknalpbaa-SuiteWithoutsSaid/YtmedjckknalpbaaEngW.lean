/- The engine, part W: functions that change the own slice that they are handed first; functions that may panic. No conditions. -/
import Derived.Test.YtmedjckknalpbaaEngS
set_option linter.unusedSimpArgs false
set_option linter.unusedVariables false
namespace Go.Tk
open Go Go.RowKit

/-- Nobody ranges. -/
def dJ : JT := { J := fun _ _ _ _ => True, Jx := fun _ _ _ => True, cl := fun _ _ _ _ _ _ _ _ _ _ _ => trivial, clx := fun _ _ _ _ _ _ _ _ _ _ => trivial }

/-! ### Functions that change an own slice -/
def inRet (cx : Cx) (c : InC) (res : List c.a.den) (rs : List ResultVar) (st : St) : Prop := match st.env 0 with
  | .own 0 g => match st.loc 0 with
    | some (g', .sl _ t xs) => if h : (T.sl t).beq (.sl c.a) = true then (match Nat.beq g g', c.ret with
      | true, false => match rs with
        | [] => castT (a := .sl t) (b := .sl c.a) (pf h) xs = res
        | _ => False
      | true, true => match retVs cx st rs with
        | some [.own 0 g2] => (match Nat.beq g2 g' with | true => castT (a := .sl t) (b := .sl c.a) (pf h) xs = res | false => False)
        | some [.sub 0 g2 lo hi] => (match Nat.beq g2 g' && Nat.beq lo 0 with | true => (castT (a := .sl t) (b := .sl c.a) (pf h) xs : List c.a.den).take hi = res | false => False)
        | _ => False
      | _, _ => False) else False
    | _ => False
  | _ => False

def inΦ (cx : Cx) (fn : Func) (c : InC) (res : List c.a.den) (e : Exit) (st : St) : Prop := match e with
  | .ret => inRet cx c res fn.results.toList st
  | .normal => inRet cx c res fn.results.toList st
  | _ => False

def BodyI (cx : Cx) (ly : List (Pth × Lay)) (fn : Func) (code : Code) (c : InC) : Prop := ∀ (xs : List c.a.den) (x : c.B.den), (T.sl c.a).wf xs → c.B.wf x → c.pre xs x → ∀ Λ : Pth → Lst → Prop, (∀ p l, hdAt cx (LyL ly) Λ code (inΦ cx fn c (c.F xs x)) p l → Λ p l) →
  Wl cx (LyL ly) Λ code (inΦ cx fn c (c.F xs x)) (mkSt ((0, .own 0 0) :: argE c.B x 1, [(0, .sl false c.a xs)]))

section
variable {P : Program}

theorem repL_take {α : Type} {R : α → List Value → Prop} {size : Nat} (hR : ∀ x cs, R x cs → cs.length = size) : ∀ (xs : List α) (cs : List Value) (k : Nat), repL R xs cs → repL R (xs.take k) (cs.take ((xs.take k).length * size))
  | [], cs, k, h => by
    have h : cs = [] := h
    subst h
    simp [repL]
  | x :: xs, cs, 0, h => by simp [repL]
  | x :: xs, cs, k + 1, ⟨c1, c2, e, h1, h2⟩ => by
    subst e
    have hl := hR _ _ h1
    refine ⟨c1, c2.take ((xs.take k).length * size), ?_, h1, repL_take hR xs c2 k h2⟩
    rw [List.take_succ_cons, List.length_cons, Nat.add_mul, Nat.one_mul, Nat.add_comm, List.take_append, hl, List.take_of_length_le (by omega)]
    congr 1
    congr 1
    omega

theorem repOwn_take {α : Type} {R : α → List Value → Prop} {size : Nat} (hR : ∀ x cs, R x cs → cs.length = size) {w : World} {S : Nat → Prop} {xs : List α} {ob : Option (Nat × Nat)} {ao : Option Addr} {len cap hi : Nat} (h : repOwn R size w S xs (.slice ao len cap) ob) (hh : hi ≤ xs.length) :
    repOwn R size w S (xs.take hi) (.slice ao hi cap) ob := by
  rcases h with ⟨e, rfl, h3⟩ | ⟨b, off, cap', cur, e, h1, h2, h3, h4, h5, h6, h7, h8⟩
  · simp at hh
    subst hh
    cases e
    exact .inl ⟨rfl, rfl, h3⟩
  · cases h2
    have hl : (xs.take hi).length = hi := by rw [List.length_take]; omega
    refine .inr ⟨b, off, cap, cur, e, h1, by rw [hl], h3, h4, by omega, by omega, h7, ?_⟩
    have := repL_take hR xs _ hi h8
    rw [List.take_take, hl, Nat.min_eq_left (Nat.mul_le_mul_right _ hh)] at this
    rw [hl]
    exact this

theorem inF_ofL {cx : Cx} {ly : List (Pth × Lay)} (hk : Cok P cx) (hmix : P.follows .mixedOrders = true) (hit : cx.X.itf = none) (hpn : cx.X.pan = none) {f : FuncId} {fn : Func} {code : Code} {c : InC} (hf : P.funcs[f]? = some fn) (hb : fn.body = some code) (hn : fn.ntmps = cx.n)
    (hA : (isTup c.B && Nat.ble (arity c.B + 1) cx.n) = true) (hok : (okC cx.n code && noRF code && !(inN (wrs code) 0)) = true) (h : BodyI cx ly fn code c) : InF P f c := by
  intro w S xs x v ob vs hown hnS hv hpre
  simp only [Bool.and_eq_true, Bool.not_eq_true'] at hA hok
  obtain ⟨⟨ok1, ok2⟩, ok3⟩ := hok
  have hle := Nat.le_of_ble_eq_true hA.2
  obtain ⟨B, hB⟩ : ∃ B : Bs, B = { n := 0, S := fun _ => True, fo := fun b => b < w.heap.size ∧ ¬ S b ∧ ∀ o, ob ≠ some (b, o), kb := fun b => b < w.heap.size ∧ S b, tv := fun b => w.heap[b]?, kv := fun t => if t = 0 then some v else none, j := some dJ } := ⟨_, rfl⟩
  have hBn : B.n = 0 := by rw [hB]
  have hBfo : ∀ b, B.fo b ↔ b < w.heap.size ∧ ¬ S b ∧ ∀ o, ob ≠ some (b, o) := fun b => by rw [hB]
  have hBkb : ∀ b, B.kb b ↔ b < w.heap.size ∧ S b := fun b => by rw [hB]
  have hBtv : ∀ b, B.tv b = w.heap[b]? := fun b => by rw [hB]
  have hBkv : ∀ t u, B.kv t = some u → t = 0 ∧ u = v := fun t u e => by
    rw [hB] at e
    simp only at e
    split at e
    · cases e; exact ⟨by assumption, rfl⟩
    · cases e
  have hBk0 : B.kv 0 = some v := by rw [hB]; rfl
  have hBro : B.ro = none := by rw [hB]
  have hBj : B.j.isSome = true := by rw [hB]; rfl
  have hBlo : B.lo = true := by rw [hB]
  have hBlb : B.lb = 0 := by rw [hB]
  let G : Nat → Gh := fun _ => gh v ob
  let M : List (Nat × Tk.L) := [(0, .sl false c.a xs)]
  have hM : ∀ k g l, mkLoc M k = some (g, l) → k = 0 ∧ g = 0 ∧ l = .sl false c.a xs := by
    intro k g l hk
    have hk2 := mkLoc_some hk
    have := hk2.2
    simp only [M, lk] at this
    split at this
    · rename_i e; cases this; exact ⟨(Nat.eq_of_beq_eq_true e).symm, hk2.1, rfl⟩
    · cases this
  have hM0 : mkLoc M 0 = some (0, .sl false c.a xs) := rfl
  have hdS : ∀ b, S b → dS B G (mkLoc M) false b := fun b hb => ⟨⟨fun e => (by cases e), .inl (by rw [hBn]; omega)⟩, fun k g l hk _ e => by
    obtain ⟨_, _, rfl⟩ := hM k g l hk
    obtain ⟨o, e⟩ := e
    exact hnS b o e hb, fun h => ((hBfo b).1 h).2.1 hb⟩
  have hwf : (T.sl c.a).wf xs := by
    refine c_wf (P := P) (.sl c.a) (w := w) (S := fun _ => True) (cs := [v]) ⟨v, rfl, ?_⟩
    exact repSl_of_own hown (fun _ _ _ => trivial) fun _ _ h => c_mono _ h fun _ _ _ => trivial
  obtain ⟨i1, i2, i3⟩ := argE_ok (S' := dS B G (mkLoc M) false) hdS c.B x vs 1 hA.1 hv
  have hR : Rel P B w cx.n (mkSt ((0, .own 0 0) :: argE c.B x 1, M)) { tmps := (v :: vs).toArray ++ Array.replicate (fn.ntmps - (v :: vs).toArray.size) undef, defers := [] } w := by
    refine ⟨⟨G, ⟨fun _ => Below.refl _ _, by rw [hBn]; omega, fun k g l hk => ?_, fun k k' g g' l l' b hk hk' => ?_, ⟨fun b h => ?_, fun k g l b hk _ e h => ?_⟩, by rw [hBlb]; omega⟩, fun t => ?_⟩, by simp; omega, ⟨Marks.nil _ _, fun _ => rfl⟩, fun t u e => ?_⟩
    · obtain ⟨rfl, rfl, rfl⟩ := hM k g l hk
      show repOwn ((reps P c.a).c w (dS B G (mkLoc M) false)) c.a.csize w (fun b => B.n ≤ b) xs v ob
      rcases hown with h0 | ⟨b, off, cap, cur, e, h1, h2, h3, h4, h5, h6, h7, h8⟩
      · exact .inl h0
      · exact .inr ⟨b, off, cap, cur, e, h1, h2, by rw [hBn]; omega, h4, h5, h6, h7, repL_mono (fun _ _ h => c_mono _ h fun b _ hb => hdS b hb) _ _ h8⟩
    · intro _ _ _ _
      rw [(hM k g l hk).1, (hM k' g' l' hk').1]
    · rcases h with h | h
      · exact ⟨((hBfo b).1 h).1, (hBtv b).symm⟩
      · exact ⟨((hBkb b).1 h).1, (hBtv b).symm⟩
    · obtain ⟨_, _, rfl⟩ := hM k g l hk
      obtain ⟨o, e⟩ := e
      rcases h with h | h
      · exact ((hBfo b).1 h).2.2 o e
      · exact hnS b o e ((hBkb b).1 h).2
    · show ERep P B G (mkLoc M) w (match lk ((0, .own 0 0) :: argE c.B x 1) t with | some v => v | none => .any) _
      simp only [lk]
      cases t with
      | zero =>
        refine ⟨0, _, hM0, Nat.le_refl _, fun _ => ?_⟩
        have e1 : ((v :: vs).toArray ++ Array.replicate (fn.ntmps - (v :: vs).toArray.size) undef)[0]? = some v := by
          rw [Array.getElem?_append_left (by simp)]
          rfl
        simp only [Array.getD_eq_getD_getElem?, e1, Option.getD_some]
        rfl
      | succ t =>
        simp only [show Nat.beq 0 (t + 1) = false from rfl]
        split
        · rename_i V e
          obtain ⟨_, v1, f', a', y, cs, j1, rfl, rfl, j4, rfl⟩ := i3 (t + 1) V e
          refine ⟨cs, ?_, j4⟩
          have j1 : vs[t]? = some (mkV a' cs) := by simpa using j1
          have hlt : t < vs.length := (List.getElem?_eq_some_iff.1 j1).1
          have e1 : ((v :: vs).toArray ++ Array.replicate (fn.ntmps - (v :: vs).toArray.size) undef)[t + 1]? = some (mkV a' cs) := by
            rw [Array.getElem?_append_left (by simp; omega)]
            simpa using j1
          simp only [Array.getD_eq_getD_getElem?, e1, Option.getD_some]
        · trivial
    · obtain ⟨rfl, rfl⟩ := hBkv t u e
      have e1 : ((u :: vs).toArray ++ Array.replicate (fn.ntmps - (u :: vs).toArray.size) undef)[0]? = some u := by
        rw [Array.getElem?_append_left (by simp)]
        rfl
      simp only [Array.getD_eq_getD_getElem?, e1, Option.getD_some]
  have hkv0 : ∀ t ∈ wrs code, B.kv t = none := fun t ht => by
    cases e : B.kv t with
    | none => rfl
    | some u =>
      obtain ⟨rfl, _⟩ := hBkv t u e
      rw [mem_inN ht] at ok3
      cases ok3
  obtain ⟨s1, s2⟩ := sound hk hmix code B w (LyL ly) (inΦ cx fn c (c.F xs x)) (relPost P B w cx.n (inΦ cx fn c (c.F xs x))) ok1 ⟨hkv0, .inl ok2, fun fr e => (by rw [hit] at e; cases e), .inl hpn⟩ (fun e st a w h hR => ⟨st, h, hR⟩) fun p hp => by rw [hpn] at hp; cases hp
  rw [hBro] at s1
  refine (callsIn_wide (n := 0)).1 (callsIn_of_wp_marks hf hb trivial (wpIn_mono (s1 _ _ _ (h xs x hwf i2 hpre _ s2) hR) ?_))
  rintro e a w' ⟨st, hst, hR⟩
  have fin : inRet cx c (c.F xs x) fn.results.toList st → LeavesInM Fence.wide 0 P fn a.tmps (fun e w' => ∃ v' ob', (match c.ret with | true => e = .returned v' | false => (∃ u, e = .returned u) ∧ v' = v ∧ ob' = ob) ∧
      repOwn ((reps P c.a).c w' (fun b => (S b ∨ w.heap.size ≤ b) ∧ ∀ o, ob' ≠ some (b, o))) c.a.csize w' (fun _ => True) (c.F xs x) v' ob' ∧ (∀ b o, ob' = some (b, o) → w.heap.size ≤ b ∨ ∃ o', ob = some (b, o')) ∧ OwnBut w w' ob) a.defers .returning w' := by
    intro h
    rw [hR.nd.2 hBj]
    obtain ⟨G', hm, he⟩ := hR.ex
    have hv0 := hR.kp 0 v hBk0
    have hbut : OwnBut w w' ob := by
      have hl := hm.low hBlo
      rw [hBn] at hl
      refine ⟨hl.os, hl.tape, hl.output, hl.size, fun i hi ho => ?_⟩
      by_cases hS : S i
      · exact (hm.frn.1 i (.inr ((hBkb i).2 ⟨hi, hS⟩))).2.trans (hBtv i)
      · exact (hm.frn.1 i (.inl ((hBfo i).2 ⟨hi, hS, ho⟩))).2.trans (hBtv i)
    unfold inRet at h
    split at h
    · rename_i g e0
      have h0 := he 0
      rw [e0, hv0] at h0
      split at h
      · rename_i g' f t xs' e1
        split at h
        · rename_i hT
          have hT' := T.beq_eq hT
          injection hT' with hT'
          subst hT'
          obtain ⟨g2, l2, q1, _, q2⟩ := h0
          rw [e1] at q1; cases q1
          have hl := hm.loc 0 _ _ e1
          unfold LRep at hl
          have core : Nat.beq g g' = true → (G' 0).hdr = v ∧ (G' 0).blk = ob := by
            intro hg
            have hv1 := q2 (Nat.eq_of_beq_eq_true hg)
            have hv1 : v = (G' 0).hdr := hv1
            refine ⟨hv1.symm, ?_⟩
            rw [← hv1] at hl
            rcases hl with ⟨a1, a2, a3⟩ | ⟨b, off, cap, cur, ee, a1, a2, _⟩
            · rcases hown with ⟨b1, b2, b3⟩ | ⟨b, off, cap, cur, ee, b1, b2, _⟩
              · rw [a3, b3]
              · rw [a1] at b2; cases b2
            · rcases hown with ⟨b1, b2, b3⟩ | ⟨b', off', cap', cur', ee', b1, b2, _⟩
              · rw [b1] at a2; cases a2
              · rw [a2] at b2
                injection b2 with b2 _ _
                cases b2
                rw [a1, b1]
          have hS' : ∀ b, (G' 0).blk = ob → dS B G' st.loc f b → (S b ∨ w.heap.size ≤ b) ∧ ∀ o, ob ≠ some (b, o) := by
            intro b hblk hd
            have hno : ∀ o, ob ≠ some (b, o) := fun o e => hd.2.1 0 _ _ e1 rfl ⟨o, by rw [hblk]; exact e⟩
            refine ⟨?_, hno⟩
            by_cases hlt : b < w.heap.size
            · by_cases hS : S b
              · exact .inl hS
              · exact (hd.2.2 ((hBfo b).2 ⟨hlt, hS, hno⟩)).elim
            · exact .inr (by omega)
          have hown' : Nat.beq g g' = true → repOwn ((reps P c.a).c w' (fun b => (S b ∨ w.heap.size ≤ b) ∧ ∀ o, ob ≠ some (b, o))) c.a.csize w' (fun _ => True) xs' v ob := by
            intro hg
            obtain ⟨c1, c2⟩ := core hg
            rw [c1, c2] at hl
            rcases hl with h0 | ⟨b, off, cap, cur, ee, b1, b2, b3, b4, b5, b6, b7, b8⟩
            · exact .inl h0
            · exact .inr ⟨b, off, cap, cur, ee, b1, b2, trivial, b4, b5, b6, b7, repL_mono (fun _ _ h => c_mono _ h fun b _ hb => hS' b c2 hb) _ _ b8⟩
          split at h
          · rename_i hg hret
            split at h
            case h_2 => exact h.elim
            rename_i hrs
            have hxs : xs' = c.F xs x := h
            refine ⟨mkRes [], results_run (by rw [hrs]; rfl), v, ob, ?_, ?_, fun b o e => .inr ⟨o, e⟩, hbut⟩
            · rw [hret]; exact ⟨⟨_, rfl⟩, rfl, rfl⟩
            · rw [← hxs]; exact hown' hg
          · rename_i hg hret
            split at h
            · rename_i g2 hrv
              split at h
              · rename_i hg2
                have hxs : xs' = c.F xs x := h
                obtain ⟨vals, r1, r2⟩ := retVs_run (a := a) hk hm he _ _ hrv
                match vals, r2 with
                | [u], ⟨r2, _⟩ =>
                  obtain ⟨g3, l3, z1, _, z2⟩ := r2
                  rw [e1] at z1; cases z1
                  have hu : u = (G' 0).hdr := z2 (Nat.eq_of_beq_eq_true hg2)
                  rw [(core hg).1] at hu
                  subst hu
                  refine ⟨u, results_run (fn := fn) (by exact r1), u, ob, ?_, ?_, fun b o e => .inr ⟨o, e⟩, hbut⟩
                  · rw [hret]
                  · rw [← hxs]; exact hown' hg
                | [], r2 => exact r2.elim
                | _ :: _ :: _, ⟨_, r2⟩ => exact r2.elim
              · exact h.elim
            · rename_i g2 lo hi hrv
              split at h
              · rename_i hg2
                rw [Bool.and_eq_true] at hg2
                obtain rfl := Nat.eq_of_beq_eq_true hg2.2
                have hxs : xs'.take hi = c.F xs x := h
                obtain ⟨vals, r1, r2⟩ := retVs_run (a := a) hk hm he _ _ hrv
                match vals, r2 with
                | [u], ⟨r2, _⟩ =>
                  obtain ⟨g3, l3, z1, _, z2⟩ := r2
                  rw [e1] at z1; cases z1
                  obtain ⟨_, hhi, ao, cap, y1, y2, y3⟩ := z2 (Nat.eq_of_beq_eq_true hg2.1)
                  rw [(core hg).1] at y1
                  have hu : u = .slice ao hi cap := by
                    rw [y3]
                    have : (if cap = 0 then ao else ao.map (·.add (0 * c.a.csize))) = ao := by
                      split
                      · rfl
                      · cases ao with
                        | none => rfl
                        | some a => obtain ⟨b, o, p⟩ := a; simp [Addr.add]
                    rw [this]
                    rfl
                  have ho := hown' hg
                  rw [y1] at ho
                  refine ⟨u, results_run (fn := fn) (by exact r1), u, ob, ?_, ?_, fun b o e => .inr ⟨o, e⟩, hbut⟩
                  · rw [hret]
                  · rw [← hxs, hu]; exact repOwn_take (fun _ _ h => c_len _ h) ho hhi
                | [], r2 => exact r2.elim
                | _ :: _ :: _, ⟨_, r2⟩ => exact r2.elim
              · exact h.elim
            · exact h.elim
          · exact h.elim
        · exact h.elim
      · exact h.elim
    · exact h.elim
  cases e with
  | ret => exact fin hst
  | normal => exact fin hst
  | _ => exact hst.elim

/-- An in-place function's Bools, in one. -/
def inB (fn : Func) (A : T) (n : Nat) : Bool := fn.body.isSome && Nat.beq fn.ntmps n && isTup A && Nat.ble (arity A + 1) n && okC n (codeOf fn) && noRF (codeOf fn) && !(inN (wrs (codeOf fn)) 0)

theorem lawI {Γ : List (Nat × Con)} {Θ : List (Nat × T)} {n : Nat} {f : FuncId} {fn : Func} {c : InC} (ly : List (Pth × Lay)) (h1 : ConsOK P Γ) (h2 : gaB P Γ = true) (h3 : thB P Θ = true) (X : Xtr) (hX : XOK P X) (hmix : P.follows .mixedOrders = true) (hf : P.funcs[f]? = some fn) (hb : inB fn c.B n = true)
    (h : BodyI ⟨Γ, Θ, n, X⟩ ly fn (codeOf fn) c) (hit : X.itf = none := by rfl) (hpn : X.pan = none := by rfl) : InF P f c := by
  simp only [inB, Bool.and_eq_true] at hb
  obtain ⟨⟨⟨⟨⟨⟨b1, b2⟩, b3⟩, b4⟩, b5⟩, b6⟩, b7⟩ := hb
  refine inF_ofL (cok_ofX h1 h2 h3 hX) hmix hit hpn hf (code := codeOf fn) ?_ (Nat.eq_of_beq_eq_true b2) (by rw [b3, b4]; rfl) (by rw [b5, b6, b7]; rfl) h
  unfold codeOf
  cases h : fn.body with
  | none => rw [h] at b1; cases b1
  | some c => rfl

/-! ### Functions that may panic -/
def panΦ (q : Prop) (e : Exit) (st : St) : Prop := match e with
  | .ret => q
  | .normal => q
  | _ => False

def panX (X : Xtr) (c : PanC) (x1 : c.A1.den) (x2 : c.A2.den) : Xtr := { X with pan := some ⟨c.R, c.ty, fun y => c.F x1 x2 = some y⟩ }

def upV : V → V
  | .d _ t x => .d true t x
  | v => v

def upE (l : List (Nat × V)) : List (Nat × V) := l.map fun p => (p.1, upV p.2)

theorem lk_upE : ∀ (l : List (Nat × V)) (t : Nat) (V : V), lk (upE l) t = some V → ∃ V', lk l t = some V' ∧ V = upV V'
  | [], t, V, h => by simp [upE, lk] at h
  | (k, v) :: l, t, V, h => by
    simp only [upE, List.map_cons, lk] at h
    simp only [lk]
    split at h
    · cases h; exact ⟨v, rfl, rfl⟩
    · exact lk_upE l t V h

theorem lk_append {α : Type _} : ∀ (l l' : List (Nat × α)) (t : Nat) (v : α), lk (l ++ l') t = some v → lk l t = some v ∨ lk l' t = some v
  | [], l', t, v, h => .inr h
  | (k, x) :: l, l', t, v, h => by
    simp only [List.cons_append, lk] at h
    simp only [lk]
    split at h
    · exact .inl h
    · exact lk_append l l' t v h

def BodyP (Γ : List (Nat × Con)) (Θ : List (Nat × T)) (n : Nat) (X : Xtr) (ly : List (Pth × Lay)) (code : Code) (c : PanC) : Prop := ∀ x1 x2, c.A1.wf x1 → c.A2.wf x2 → c.pre x1 x2 → ∀ Λ : Pth → Lst → Prop, (∀ p l, hdAt ⟨Γ, Θ, n, panX X c x1 x2⟩ (LyL ly) Λ code (panΦ (c.F x1 x2 = none)) p l → Λ p l) →
  Wl ⟨Γ, Θ, n, panX X c x1 x2⟩ (LyL ly) Λ code (panΦ (c.F x1 x2 = none)) (mkSt (argE c.A1 x1 0 ++ upE (argE c.A2 x2 (arity c.A1)), []))

def panB (fn : Func) (A1 A2 : T) (n : Nat) : Bool := fn.body.isSome && Nat.beq fn.ntmps n && (match fn.results.toList with | [] => true | _ => false) && isTup A1 && isTup A2 && Nat.ble (arity A1 + arity A2) n && okC n (codeOf fn) && noRF (codeOf fn)

theorem lawP {Γ : List (Nat × Con)} {Θ : List (Nat × T)} {n : Nat} {f : FuncId} {fn : Func} {c : PanC} (ly : List (Pth × Lay)) (h1 : ConsOK P Γ) (h2 : gaB P Γ = true) (h3 : thB P Θ = true) (X : Xtr) (hX : XOK P X) (hif : ifcB P c.ty = true) (hmix : P.follows .mixedOrders = true) (hf : P.funcs[f]? = some fn) (hb : panB fn c.A1 c.A2 n = true)
    (h : BodyP Γ Θ n X ly (codeOf fn) c) (hit : X.itf = none := by rfl) : PanF P f c := by
  simp only [panB, Bool.and_eq_true] at hb
  obtain ⟨⟨⟨⟨⟨⟨⟨b1, b2⟩, b0⟩, b3⟩, b3'⟩, b4⟩, b5⟩, b6⟩ := hb
  intro w n0 S x1 x2 vs us hn0 hv1 hv2 hpre
  have hle := Nat.le_of_ble_eq_true b4
  have hn : fn.ntmps = n := Nat.eq_of_beq_eq_true b2
  have hres : fn.results.toList = [] := by
    split at b0
    · assumption
    · cases b0
  have hbody : fn.body = some (codeOf fn) := by
    unfold codeOf
    cases h : fn.body with
    | none => rw [h] at b1; cases b1
    | some c => rfl
  have hk : Cok P ⟨Γ, Θ, n, panX X c x1 x2⟩ := cok_ofX h1 h2 h3 ⟨hX.U, hX.mul, hX.inp, hX.arr, hX.pcs, fun p hp => (by cases hp; exact ifcB_ok hif), hX.nil⟩
  obtain ⟨B, hB⟩ : ∃ B : Bs, B = { n := n0, S, kb := fun b => n0 ≤ b ∧ b < w.heap.size, tv := fun b => w.heap[b]?, j := some dJ } := ⟨_, rfl⟩
  have hBn : B.n = n0 := by rw [hB]
  have hBS : ∀ b, B.S b ↔ S b := fun b => by rw [hB]
  have hBfo : ∀ b, ¬ B.fo b := fun b h => by rw [hB] at h; exact h
  have hBkb : ∀ b, B.kb b ↔ n0 ≤ b ∧ b < w.heap.size := fun b => by rw [hB]
  have hBtv : ∀ b, B.tv b = w.heap[b]? := fun b => by rw [hB]
  have hBkv : ∀ t, B.kv t = none := fun t => by rw [hB]
  have hBro : B.ro = none := by rw [hB]
  have hBj : B.j.isSome = true := by rw [hB]; rfl
  have hBlo : B.lo = true := by rw [hB]
  have hBlb : B.lb = 0 := by rw [hB]
  let G : Nat → Gh := fun _ => gh undef none
  have hd1 : ∀ b, (n0 ≤ b ∨ S b) → dS B G (mkLoc []) false b := fun b hb => ⟨⟨fun e => (by cases e), by rw [hBn, hBS]; exact hb⟩, fun k g l hk => by simp [mkLoc, lk] at hk, hBfo b⟩
  have hd2 : ∀ b, n0 ≤ b → dS B G (mkLoc []) true b := fun b hb => ⟨⟨fun _ => by rw [hBn]; exact hb, by rw [hBn]; exact .inl hb⟩, fun k g l hk => by simp [mkLoc, lk] at hk, hBfo b⟩
  obtain ⟨i1, i2, i3⟩ := argE_ok (S' := dS B G (mkLoc []) false) hd1 c.A1 x1 vs 0 b3 hv1
  obtain ⟨j1, j2, j3⟩ := argE_ok (S' := dS B G (mkLoc []) true) hd2 c.A2 x2 us (arity c.A1) b3' hv2
  have hR : Rel P B w n (mkSt (argE c.A1 x1 0 ++ upE (argE c.A2 x2 (arity c.A1)), [])) { tmps := (vs ++ us).toArray ++ Array.replicate (fn.ntmps - (vs ++ us).toArray.size) undef, defers := [] } w := by
    refine ⟨⟨G, ⟨fun _ => Below.refl _ _, by rw [hBn]; exact hn0, fun k g l hk => by simp [mkSt, mkLoc, lk] at hk, fun k k' g g' l l' b hk => by simp [mkSt, mkLoc, lk] at hk, ⟨fun b h => ?_, fun k g l b hk => by simp [mkSt, mkLoc, lk] at hk⟩, by rw [hBlb]; omega⟩, fun t => ?_⟩, by simp; omega, ⟨Marks.nil _ _, fun _ => rfl⟩, fun t v e => by rw [hBkv] at e; cases e⟩
    · rcases h with h | h
      · exact (hBfo b h).elim
      · exact ⟨((hBkb b).1 h).2, (hBtv b).symm⟩
    · have hget : ∀ (t : Nat) (v : Value), (vs ++ us)[t]? = some v → ((vs ++ us).toArray ++ Array.replicate (fn.ntmps - (vs ++ us).toArray.size) undef).getD t undef = v := by
        intro t v e
        have hlt : t < (vs ++ us).length := (List.getElem?_eq_some_iff.1 e).1
        have e1 : ((vs ++ us).toArray ++ Array.replicate (fn.ntmps - (vs ++ us).toArray.size) undef)[t]? = some v := by
          rw [Array.getElem?_append_left (by simpa using hlt)]
          simpa using e
        simp only [Array.getD_eq_getD_getElem?, e1, Option.getD_some]
      show ERep P B G (mkLoc []) w (match lk (argE c.A1 x1 0 ++ upE (argE c.A2 x2 (arity c.A1))) t with | some v => v | none => .any) _
      split
      · rename_i V e
        rcases lk_append _ _ _ _ e with e | e
        · obtain ⟨_, v, f', a, y, cs, k1, rfl, rfl, k4, rfl⟩ := i3 t V e
          refine ⟨cs, ?_, k4⟩
          have k1 : vs[t]? = some (mkV a cs) := k1
          have hlt : t < vs.length := (List.getElem?_eq_some_iff.1 k1).1
          exact hget t _ (by rw [List.getElem?_append_left hlt]; exact k1)
        · obtain ⟨V', e', rfl⟩ := lk_upE _ _ _ e
          obtain ⟨hkt, v, f', a, y, cs, k1, rfl, rfl, k4, rfl⟩ := j3 t V' e'
          refine ⟨cs, ?_, k4⟩
          exact hget t _ (by rw [List.getElem?_append_right (by omega), i1]; exact k1)
      · trivial
  obtain ⟨Qp, hQp⟩ : ∃ Qp : Exit → Act → World → Prop, Qp = fun e a w' => a.defers = [] ∧ Below w.heap.size w w' ∧ ((c.F x1 x2 = none ∧ (e = .ret ∨ e = .normal)) ∨ ∃ y cs, c.F x1 x2 = some y ∧ e = .panic [{ v := .iface c.ty (mkV c.R cs), recovered := false }] ∧ (reps P c.R).c w' (fun b => n0 ≤ b) y cs) := ⟨_, rfl⟩
  have hbelow : ∀ {G' : Nat → Gh} {m : Mem} {w' : World}, MRel P B G' m w' w → Below w.heap.size w w' := by
    intro G' m w' hm
    have hl := hm.low hBlo
    rw [hBn] at hl
    refine ⟨hl.os, hl.tape, hl.output, hl.size, fun i hi => ?_⟩
    by_cases hlt : i < n0
    · exact hl.block i hlt
    · exact (hm.frn.1 i (.inr ((hBkb i).2 ⟨by omega, hi⟩))).2.trans (hBtv i)
  obtain ⟨s1, s2⟩ := sound hk hmix (codeOf fn) B w (LyL ly) (panΦ (c.F x1 x2 = none)) Qp b5 ⟨fun _ _ => hBkv _, .inl b6, fun fr e => (by rw [show (panX X c x1 x2).itf = X.itf from rfl, hit] at e; cases e), .inr b6⟩ (fun e st a w' h hR => by
    obtain ⟨G', hm, _⟩ := hR.ex
    rw [hQp]
    refine ⟨hR.nd.2 hBj, hbelow hm, .inl ?_⟩
    cases e <;> first | exact h.elim | skip
    · exact ⟨h, .inr rfl⟩
    · exact ⟨h, .inl rfl⟩) (fun p hp y st a w' cs hy hR hc => by
    cases hp
    obtain ⟨G', hm, _⟩ := hR.ex
    rw [hQp]
    rw [hBn] at hc
    exact ⟨hR.nd.2 hBj, hbelow hm, .inr ⟨y, cs, hy, rfl, hc⟩⟩)
  rw [hBro] at s1
  refine (callsIn_wide (n := 0)).1 (callsIn_of_wp_marks hf hbody trivial (wpIn_mono (s1 _ _ _ (h x1 x2 i2 j2 hpre _ s2) hR) ?_))
  rw [hQp]
  rintro e a w' ⟨hd, hbel, he⟩
  rcases he with ⟨e1, e2⟩ | ⟨y, cs, e1, rfl, hc⟩
  · have : LeavesInM Fence.wide 0 P fn a.tmps (fun e w' => Below w.heap.size w w' ∧ ((c.F x1 x2 = none ∧ ∃ u, e = .returned u) ∨
        ∃ y cs, c.F x1 x2 = some y ∧ e = .panicked [{ v := .iface c.ty (mkV c.R cs), recovered := false }] ∧ (reps P c.R).c w' (fun b => n0 ≤ b) y cs)) a.defers .returning w' := by
      rw [hd]
      exact ⟨mkRes [], results_run (by rw [hres]; rfl), hbel, .inl ⟨e1, _, rfl⟩⟩
    rcases e2 with rfl | rfl <;> exact this
  · show LeavesInM Fence.wide 0 P fn a.tmps _ a.defers (.panicking _) w'
    rw [hd]
    exact ⟨hbel, .inr ⟨y, cs, e1, rfl, hc⟩⟩

/-! ### Functions that are handed nil first -/
def BodyN (cx : Cx) (ly : List (Pth × Lay)) (fn : Func) (code : Code) (c : Con) : Prop := ∀ x, c.A.wf x → c.pre x → ∀ Λ : Pth → Lst → Prop, (∀ p l, hdAt cx (LyL ly) Λ code (retΦ cx fn c.al c.R (c.F x)) p l → Λ p l) →
  Wl cx (LyL ly) Λ code (retΦ cx fn c.al c.R (c.F x)) (mkSt ((0, .c (.slice none 0 0)) :: argE c.A x 1, []))

def nilB (fn : Func) (A : T) (n : Nat) : Bool := fn.body.isSome && Nat.beq fn.ntmps n && isTup A && Nat.ble (arity A + 1) n && okC n (codeOf fn)

theorem lawN {Γ : List (Nat × Con)} {Θ : List (Nat × T)} {n : Nat} {f : FuncId} {fn : Func} {c : Con} (ly : List (Pth × Lay)) (h1 : ConsOK P Γ) (h2 : gaB P Γ = true) (h3 : thB P Θ = true) (X : Xtr) (hX : XOK P X) (hmix : P.follows .mixedOrders = true) (hf : P.funcs[f]? = some fn) (hb : nilB fn c.A n = true)
    (h : BodyN ⟨Γ, Θ, n, X⟩ ly fn (codeOf fn) c) (hal : c.al = false := by rfl) (hit : X.itf = none := by rfl) (hpn : X.pan = none := by rfl) : NilF P f c := by
  simp only [nilB, Bool.and_eq_true] at hb
  obtain ⟨⟨⟨⟨b1, b2⟩, b3⟩, b4⟩, b5⟩ := hb
  intro w S x vs hv hpre
  have hle := Nat.le_of_ble_eq_true b4
  have hn : fn.ntmps = n := Nat.eq_of_beq_eq_true b2
  have hbody : fn.body = some (codeOf fn) := by
    unfold codeOf
    cases h : fn.body with
    | none => rw [h] at b1; cases b1
    | some c => rfl
  have hk : Cok P ⟨Γ, Θ, n, X⟩ := cok_ofX h1 h2 h3 hX
  let cx : Cx := ⟨Γ, Θ, n, X⟩
  let B : Bs := { n := w.heap.size, S }
  let G : Nat → Gh := fun _ => gh undef none
  obtain ⟨i1, i2, i3⟩ := argE_ok (S' := dS B G (mkLoc []) false) (fun b hb => ⟨⟨fun e => (by cases e), .inr hb⟩, fun k g l hk => by simp [mkLoc, lk] at hk, fun h => h⟩) c.A x vs 1 b3 hv
  have hR : Rel P B w n (mkSt ((0, .c (.slice none 0 0)) :: argE c.A x 1, [])) { tmps := (Value.slice none 0 0 :: vs).toArray ++ Array.replicate (fn.ntmps - (Value.slice none 0 0 :: vs).toArray.size) undef, defers := [] } w := by
    refine ⟨⟨G, ⟨fun _ => Below.refl _ _, Nat.le_refl _, fun k g l hk => by simp [mkSt, mkLoc, lk] at hk, fun k k' g g' l l' b hk => by simp [mkSt, mkLoc, lk] at hk, ⟨fun b h => by rcases h with h | h <;> exact h.elim, fun k g l b hk => by simp [mkSt, mkLoc, lk] at hk⟩, Nat.zero_le _⟩, fun t => ?_⟩, by simp; omega, ⟨Marks.nil _ _, fun _ => rfl⟩, fun t v e => by cases e⟩
    show ERep P B G (mkLoc []) w (match lk ((0, .c (.slice none 0 0)) :: argE c.A x 1) t with | some v => v | none => .any) _
    simp only [lk]
    cases t with
    | zero =>
      have e1 : ((Value.slice none 0 0 :: vs).toArray ++ Array.replicate (fn.ntmps - (Value.slice none 0 0 :: vs).toArray.size) undef)[0]? = some (Value.slice none 0 0) := by
        rw [Array.getElem?_append_left (by simp)]
        rfl
      show _ = Value.slice none 0 0
      simp only [Array.getD_eq_getD_getElem?, e1, Option.getD_some]
    | succ t =>
      simp only [show Nat.beq 0 (t + 1) = false from rfl]
      split
      · rename_i V e
        obtain ⟨_, v1, f', a', y, cs, j1, rfl, rfl, j4, rfl⟩ := i3 (t + 1) V e
        refine ⟨cs, ?_, j4⟩
        have j1 : vs[t]? = some (mkV a' cs) := by simpa using j1
        have hlt : t < vs.length := (List.getElem?_eq_some_iff.1 j1).1
        have e1 : ((Value.slice none 0 0 :: vs).toArray ++ Array.replicate (fn.ntmps - (Value.slice none 0 0 :: vs).toArray.size) undef)[t + 1]? = some (mkV a' cs) := by
          rw [Array.getElem?_append_left (by simp; omega)]
          simpa using j1
        simp only [Array.getD_eq_getD_getElem?, e1, Option.getD_some]
      · trivial
  have hfo : ∀ b, ¬ (B.fo b ∨ B.kb b) := fun b h => by rcases h with h | h <;> exact h.elim
  obtain ⟨s1, s2⟩ := sound hk hmix (codeOf fn) B w (LyL ly) (retΦ cx fn c.al c.R (c.F x)) (relPost P B w n (retΦ cx fn c.al c.R (c.F x))) b5 ⟨fun _ _ => rfl, .inr ⟨rfl, hfo, fun _ => rfl, rfl⟩, fun fr e => (by rw [hit] at e; cases e), .inl hpn⟩ (fun e st a w h hR => ⟨st, h, hR⟩) fun p hp => by rw [hpn] at hp; cases hp
  refine (callsIn_wide (n := 0)).1 (callsIn_of_wp_marks hf hbody trivial (wpIn_mono (s1 _ _ _ (h x i2 hpre _ s2) hR) ?_))
  rintro e a w' ⟨st, hst, hR⟩
  have fin : retOK cx c.al fn.results.toList c.R (c.F x) st → LeavesInM Fence.wide 0 P fn a.tmps (fun e w' => ∃ rs bs, e = .returned (mkRes rs) ∧ (reps P c.R).v w' (fun b => w.heap.size ≤ b ∧ b ∉ bs) (c.F x) rs bs ∧ bs.Nodup ∧ (∀ b ∈ bs, w.heap.size ≤ b) ∧ Below w.heap.size w w') a.defers .returning w' := by
    intro h
    unfold retOK at h
    split at h
    · rename_i vs' e
      obtain ⟨rs, e1, e2, e3⟩ := hR.nd.1
      rw [e1]
      refine leaves_marks (B := B) (w0 := w) (st := st) rfl hfo (fun w2 ⟨G', hm, he⟩ => ?_) rs w' e2 e3 hR.ex
      obtain ⟨vals, h1, h2⟩ := retVs_run (a := a) hk hm he _ _ e
      obtain ⟨bs, h3, h4, h5⟩ := retChk_ok hk hm h2 h
      exact ⟨_, results_run h1, vals, bs, rfl, v_mono _ h3 fun b ⟨p, q⟩ => ⟨p.resolve_right (fun h => by rw [hal] at h; cases h.1), q⟩, h4, h5, hm.low rfl⟩
    · exact h.elim
  cases e with
  | ret => exact fin hst
  | normal => exact fin hst
  | _ => exact hst.elim

end

end Go.Tk
