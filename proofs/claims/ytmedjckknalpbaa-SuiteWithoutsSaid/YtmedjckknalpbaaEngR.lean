/- The engine, part R: arguments that can be read as data, opened; from a law's contract to what the given statement asks. No conditions. -/
import Derived.Test.YtmedjckknalpbaaEngQ
import Derived.SizedLaws
import Derived.Carry
import Derived.ProofKit
import Derived.OpenShut
set_option linter.unusedSimpArgs false
set_option linter.unusedVariables false
namespace Go.Tk
open Go Go.RowKit Go.ChangeShapes Go.WideShapes

/-- What is asked of the type of an argument besides: no function in it, and what lies in slices takes a byte at least. -/
def posB (P : Program) : T → TB
  | .int => ⟨fun _ => true, fun _ _ => false⟩
  | .bool => ⟨fun _ => true, fun _ _ => false⟩
  | .nil => ⟨fun _ => true, fun _ _ => true⟩
  | .cons a b => ⟨fun i => stB (fun l => match l with | f :: l => (posB P a).ty f.type && (posB P b).fl l 0 | [] => false) (P.underlying i), fun l _ => match l with | f :: l => (posB P a).ty f.type && (posB P b).fl l 0 | [] => false⟩
  | .sl a => ⟨fun i => (match P.underlying i with | some (.slice e) => !(Nat.beq (P.bytesOf e) 0) && !(Nat.beq a.csize 0) && (posB P a).ty e | _ => false), fun _ _ => false⟩
  | .osl _ => ⟨fun _ => false, fun _ _ => false⟩
  | .ref _ => ⟨fun _ => false, fun _ _ => false⟩
  | .arr n a => ⟨fun i => (match P.underlying i with | some (.array _ e) => (posB P a).ty e | _ => false), fun _ _ => false⟩
  | .fn _ _ => ⟨fun _ => false, fun _ _ => false⟩
  | .nsl _ => ⟨fun _ => false, fun _ _ => false⟩
  | .seq _ _ => ⟨fun _ => false, fun _ _ => false⟩

section
variable {H : Type} {enc : TypeId × Value → H} {P : Program} {W : World}

theorem cellsOf_tys {t : T} {i : TypeId} (h : (tys P t).ty i) : P.cellsOf i = t.csize := by
  obtain ⟨f, h1, h2, _⟩ := tys_info h
  simp [Program.cellsOf, h1, h2]

theorem all_app {l k : List Nat} (h : (l ++ k).all (· ≤ reachBytes) = true) : l.all (· ≤ reachBytes) = true ∧ k.all (· ≤ reachBytes) = true := by
  rw [List.all_append, Bool.and_eq_true] at h; exact h

theorem weightsAll_mem {e : TypeId} : ∀ {ds : List (DataW H)} {j : Nat} {d : DataW H}, ds[j]? = some d → (DataW.weightsAll P e ds).all (· ≤ reachBytes) = true → (d.weights P e).all (· ≤ reachBytes) = true
  | d0 :: ds, 0, d, h, ha => by
    simp only [DataW.weightsAll] at ha
    cases h; exact (all_app ha).1
  | d0 :: ds, j + 1, d, h, ha => by
    simp only [DataW.weightsAll] at ha
    exact weightsAll_mem (by simpa using h) (all_app ha).2
  | [], _, _, h, _ => by simp at h

def OpTy (H : Type) (enc : TypeId × Value → H) (P : Program) (W : World) (t : T) : Prop := ∀ (i : TypeId) (n : Nat) (cs : List Value) (x : DataW H × List MemPlace), (tys P t).ty i → (posB P t).ty i = true →
  DataW.trod enc P W 0 (fun _ => true) true n i cs = some x → (x.1.weights P i).all (· ≤ reachBytes) = true → ∃ y, (reps P t).c W (fun b => b < W.heap.size) y cs

def OpFl (H : Type) (enc : TypeId × Value → H) (P : Program) (W : World) (t : T) : Prop := ∀ (l : List Field) (o n : Nat) (cs : List Value) (xs : List (DataW H × List MemPlace)), (tys P t).fl l o → (posB P t).fl l 0 = true → xs.length = l.length →
  (∀ (j : Nat) (f : Field), l[j]? = some f → DataW.trod enc P W 0 (fun _ => true) true n f.type ((cs.drop f.offset).take (P.cellsOf f.type)) = xs[j]?) →
  (DataW.weightsEach P (l.map (·.type)) (xs.map (·.1))).all (· ≤ reachBytes) = true → cs.length = o + t.csize → ∃ y, (reps P t).c W (fun b => b < W.heap.size) y (cs.drop o)

theorem op_cons_fl {a b : T} (ha : OpTy H enc P W a) (hb : OpFl H enc P W b) : OpFl H enc P W (.cons a b) := by
  intro l o n cs xs h1 h2 h3 h4 h5 h6
  obtain ⟨f, l', rfl, rfl, h7, h8, h9, h10⟩ := h1
  simp only [posB, Bool.and_eq_true] at h2
  match xs, h3 with
  | x :: xs, h3 =>
    have e := cellsOf_tys h9
    have g0 := h4 0 f rfl
    rw [e] at g0
    simp only [List.map_cons, DataW.weightsEach] at h5
    obtain ⟨h5, h5'⟩ := all_app h5
    obtain ⟨y, hy⟩ := ha f.type n _ x h9 h2.1 g0 h5
    simp only [T.csize] at h6
    obtain ⟨z, hz⟩ := hb l' (f.offset + a.csize) n cs xs h10 h2.2 (by simpa using h3) (fun j f' hj => by simpa using h4 (j + 1) f' (by simpa using hj)) h5' (by omega)
    refine ⟨(y, z), (cs.drop f.offset).take a.csize, cs.drop (f.offset + a.csize), ?_, hy, hz⟩
    rw [← List.drop_drop, List.take_append_drop]

theorem cells_slice {a : Addr} {k n : Nat} {cs : List Value} (h : W.cells? 0 (a.add k) n = some cs) : cs.length = n ∧ ∀ j, j < n → W.cell? ((a.add k).add j) = cs[j]? := by
  unfold World.cells? at h
  rw [if_pos (Nat.zero_le _)] at h
  refine ⟨by simpa using mapM_some_length h, fun j hj => ?_⟩
  have := mapM_some_get h j j (by simp [hj])
  simpa using this

theorem cell_lt {a : Addr} {v : Value} (h : W.cell? a = some v) : a.block < W.heap.size ∧ a.spot = none := by
  unfold World.cell? at h
  split at h
  · rename_i c _ _ e
    refine ⟨(Array.getElem?_eq_some_iff.1 e).1, ?_⟩
    split at h
    · cases h
    · rename_i hn; simpa using hn
  · cases h

theorem add_add (ad : Addr) (m n : Nat) (h : ((ad.add m).add n).spot = none) : (ad.add m).add n = ⟨ad.block, ad.off + (m + n), none⟩ := by
  obtain ⟨ab, ao, as⟩ := ad
  unfold Addr.add at h ⊢
  by_cases h1 : m = 0
  · by_cases h2 : n = 0
    · subst h1; subst h2; simp at h; simp [h]
    · subst h1; simp [h2]
  · by_cases h2 : n = 0
    · subst h2; simp [h1]
    · simp [h1, h2]; omega

theorem op_ty : ∀ (t : T), OpTy H enc P W t ∧ OpFl H enc P W t
  | .int => ⟨fun i n cs x h _ ht _ => by
      obtain ⟨m, rfl, rfl, hw⟩ := DataW.trod_int h.1 ht
      refine ⟨m, rfl, ?_⟩
      simp [Lit.wf, IntKind.min, IntKind.max, IntKind.signed, IntKind.bits] at hw
      exact hw, fun l o n cs xs h => h.elim⟩
  | .bool => ⟨fun i n cs x h _ ht _ => by
      obtain ⟨m, rfl, rfl⟩ := DataW.trod_bool h.1 ht
      exact ⟨m, rfl⟩, fun l o n cs xs h => h.elim⟩
  | .nil => ⟨fun i n cs x h _ ht _ => by
      obtain ⟨fs, e1, e2⟩ := h.1
      obtain ⟨xs, m, _, rfl, hl, _⟩ := DataW.trod_struct e1 ht
      rw [cellsOf_tys h] at hl
      exact ⟨(), List.length_eq_zero_iff.1 hl⟩, fun l o n cs xs h _ _ _ _ hl => ⟨(), by
      show cs.drop o = []
      exact List.drop_of_length_le (by simp [T.csize] at hl; omega)⟩⟩
  | .cons a b => by
    have hfl := op_cons_fl (op_ty a).1 (op_ty b).2
    refine ⟨fun i n cs x h hp ht hw => ?_, hfl⟩
    have h0 := cellsOf_tys h
    obtain ⟨fs, e1, f, l, e2, h1, h2, h3, h4, h5⟩ := h.1
    obtain ⟨xs, m, _, rfl, hl, hx, hf⟩ := DataW.trod_struct e1 ht
    rw [h0] at hl
    simp only [posB] at hp
    obtain ⟨fs', e3, hp⟩ := stB_ok hp
    obtain rfl : fs' = fs := by simpa [e1] using e3.symm
    rw [e2] at hp
    simp only [DataW.weights, e1] at hw
    rw [e2] at hw
    obtain ⟨y, hy⟩ := hfl (f :: l) 0 m cs xs ⟨f, l, rfl, h1, h2, h3, h4, by simpa using h5⟩ hp (by rw [← e2]; simpa using hx) (fun j f' hj => hf j f' (by rw [← e2] at hj; simpa using hj)) hw (by rw [hl]; simp [T.csize])
    exact ⟨y, by simpa using hy⟩
  | .sl a => ⟨fun i n cs x h hp ht hw => by
      obtain ⟨e, e1, he⟩ := h.1
      simp only [posB, e1, Bool.and_eq_true] at hp
      have h1 := bne_false hp.1.1
      have h2 := bne_false hp.1.2
      have h0 := cellsOf_tys he
      rcases DataW.trod_slice e1 ht with ⟨rfl, rfl⟩ | ⟨ad, len, cap, elems, rest, m, rfl, rfl, rfl, h3, h4, h5, h6, h7, h8, _⟩
      · exact ⟨[], _, rfl, none, 0, rfl, Nat.le_refl _, Nat.zero_le _, .inl rfl⟩
      · obtain ⟨h8, _⟩ := h8 rfl
        simp only [DataW.weights, e1, List.all_cons, Bool.and_eq_true, decide_eq_true_eq, List.length_map] at hw
        obtain ⟨hw0, hw⟩ := hw
        obtain ⟨hw, _⟩ := all_app hw
        have hcap : cap ≤ 140737488355328 := by
          have : elems.length + rest.length ≤ (elems.length + rest.length) * P.bytesOf e := Nat.le_mul_of_pos_right _ (by omega)
          have : reachBytes ≤ 140737488355328 := by decide
          omega
        rw [h0] at h7
        have hel : ∀ k, k ≤ len → ∃ (ys : List a.den) (cs : List Value), ys.length = k ∧ repL ((reps P a).c W (fun b => b < W.heap.size)) ys cs ∧ ∀ j v, cs[j]? = some v → W.cell? ⟨ad.block, ad.off + j, none⟩ = some v := by
          intro k
          induction k with
          | zero => intro _; exact ⟨[], [], rfl, rfl, fun j v h => by simp at h⟩
          | succ k ih =>
            intro hk
            obtain ⟨ys, cs, hy1, hy2, hy3⟩ := ih (by omega)
            have hlen := repL_len (fun x cs h => c_len (P := P) a h) _ _ hy2
            have g := h7 k (by omega)
            have hk2 : k < elems.length := by omega
            rw [List.getElem?_eq_getElem hk2] at g
            obtain ⟨c, hc, ht2⟩ := Option.bind_eq_some_iff.1 g
            obtain ⟨hc1, hc2⟩ := cells_slice hc
            obtain ⟨y, hy⟩ := (op_ty a).1 e m c elems[k] he hp.2 ht2 (weightsAll_mem (j := k) (by simp [hk2]) hw)
            refine ⟨ys ++ [y], cs ++ c, by simp [hy1], repL_append _ _ _ _ hy2 ⟨c, [], by simp, hy, rfl⟩, ?_⟩
            intro j v hj
            rcases Nat.lt_or_ge j cs.length with hj2 | hj2
            · rw [List.getElem?_append_left hj2] at hj
              exact hy3 j v hj
            · rw [List.getElem?_append_right hj2] at hj
              have hj3 : j - cs.length < a.csize := by
                have := (List.getElem?_eq_some_iff.1 hj).1
                omega
              have := hc2 _ hj3
              rw [hj] at this
              obtain ⟨_, hsp⟩ := cell_lt this
              rw [hlen, hy1] at hj2 hj3 this hsp
              rw [add_add _ _ _ hsp, show k * a.csize + (j - k * a.csize) = j by omega] at this
              exact this
        obtain ⟨ys, cs, hy1, hy2, hy3⟩ := hel len (Nat.le_refl _)
        refine ⟨ys, _, rfl, some ad, cap, by rw [hy1], by omega, by omega, ?_⟩
        rcases Nat.eq_zero_or_pos len with hz | hz
        · left; subst hz; exact List.length_eq_zero_iff.1 hy1
        · right
          have hlen := repL_len (fun x cs h => c_len (P := P) a h) _ _ hy2
          have g := h7 0 hz
          rw [List.getElem?_eq_getElem (by omega)] at g
          obtain ⟨c, hc, _⟩ := Option.bind_eq_some_iff.1 g
          obtain ⟨hc1, hc2⟩ := cells_slice hc
          have g2 := hc2 0 (by omega)
          rw [List.getElem?_eq_getElem (by omega)] at g2
          obtain ⟨g3, g4⟩ := cell_lt g2
          obtain ⟨ab, ao, as⟩ := ad
          simp [Addr.add] at g3 g4
          subst g4
          exact ⟨ab, ao, cs, rfl, g3, g3, hy3, hy2⟩, fun l o n cs xs h => h.elim⟩
  | .osl _ => ⟨fun i n cs x h => h.elim, fun l o n cs xs h => h.elim⟩
  | .nsl _ => ⟨fun i n cs x h => h.elim, fun l o n cs xs h => h.elim⟩
  | .seq _ _ => ⟨fun i n cs x h => h.elim, fun l o n cs xs h => h.elim⟩
  | .ref _ => ⟨fun i n cs x h => h.elim, fun l o n cs xs h => h.elim⟩
  | .arr k a => ⟨fun i n cs x h hp ht hw => by
      obtain ⟨e, e1, he⟩ := h.1
      simp only [posB, e1] at hp
      have h0 := cellsOf_tys he
      have h00 := cellsOf_tys h
      obtain ⟨xs, m, rfl, rfl, hl, hx, hf⟩ := DataW.trod_array e1 ht
      rw [h00] at hl
      rw [h0] at hf
      simp only [DataW.weights, e1] at hw
      simp only [T.csize] at hl
      have hel : ∀ j, j ≤ k → ∃ ys : List a.den, ys.length = j ∧ repL ((reps P a).c W (fun b => b < W.heap.size)) ys (cs.take (j * a.csize)) := by
        intro j
        induction j with
        | zero => intro _; exact ⟨[], rfl, by simp [repL]⟩
        | succ j ih =>
          intro hj
          obtain ⟨ys, hy1, hy2⟩ := ih (by omega)
          have g := hf j (by omega)
          have hj2 : j < xs.length := by omega
          rw [List.getElem?_eq_getElem hj2] at g
          obtain ⟨y, hy⟩ := (op_ty a).1 e m _ xs[j] he hp g (weightsAll_mem (j := j) (by simp [hj2]) hw)
          refine ⟨ys ++ [y], by simp [hy1], ?_⟩
          rw [Nat.add_mul, Nat.one_mul, List.take_add]
          exact repL_append _ _ _ _ hy2 ⟨_, [], by simp, hy, rfl⟩
      obtain ⟨ys, hy1, hy2⟩ := hel k (Nat.le_refl _)
      rw [List.take_of_length_le (by omega)] at hy2
      exact ⟨ys, hy1, hy2⟩, fun l o n cs xs h => h.elim⟩
  | .fn _ _ => ⟨fun i n cs x _ hp => by simp [posB] at hp, fun l o n cs xs h => h.elim⟩

/-- An argument, opened. -/
theorem open_arg {t : T} {i : TypeId} {r : Reach} {b0 : Nat} {v : Value} {d : DataW H} {ps : List MemPlace} (ht : (tys P t).ty i) (hp : (posB P t).ty i = true) (hval : Value.okWide P W r b0 i v)
    (hd : DataW.Trod enc P W 0 (fun _ => true) true i v d ps) (hw : (d.weights P i).all (· ≤ reachBytes) = true) : ∃ x, (reps P t).o W (fun b => b < W.heap.size) x v [] := by
  obtain ⟨n, hn⟩ := hd
  obtain ⟨y, hy⟩ := (op_ty t).1 i n v.cells.toList (d, ps) ht hp hn hw
  have hv : v = mkV t v.cells.toList := by
    cases t with
    | int => obtain ⟨m, rfl⟩ := okWide_int ht.1 hval; rfl
    | bool => obtain ⟨m, rfl⟩ := okWide_bool ht.1 hval; rfl
    | nil => obtain ⟨⟨fs, e1, _⟩, _⟩ := ht; obtain ⟨cs, rfl, _⟩ := okWide_struct e1 hval; rfl
    | cons a b => obtain ⟨⟨fs, e1, _⟩, _⟩ := ht; obtain ⟨cs, rfl, _⟩ := okWide_struct e1 hval; rfl
    | sl a => obtain ⟨⟨e, e1, _⟩, _⟩ := ht; obtain ⟨_, _, _, rfl⟩ := okWide_slice e1 hval; rfl
    | osl a => exact ht.elim
    | ref a => exact ht.elim
    | arr k a =>
      obtain ⟨⟨e, e1, _⟩, _⟩ := ht
      simp only [Value.okWide, e1] at hval
      obtain ⟨cs, rfl, _⟩ := hval; rfl
    | fn a b => simp [posB] at hp
    | nsl a => exact ht.elim
    | seq fr a => exact ht.elim
  refine ⟨y, ?_⟩
  cases t with
  | osl a => exact ht.elim
  | ref a => exact ht.elim
  | int => exact ⟨rfl, _, hv, hy⟩
  | bool => exact ⟨rfl, _, hv, hy⟩
  | nil => exact ⟨rfl, _, hv, hy⟩
  | cons a b => exact ⟨rfl, _, hv, hy⟩
  | sl a => exact ⟨rfl, _, hv, hy⟩
  | arr k a => exact ⟨rfl, _, hv, hy⟩
  | fn a b => exact ⟨rfl, _, hv, hy⟩
  | nsl a => exact ht.elim
  | seq fr a => exact ht.elim

/-- The parameters' types are those of the contract. -/
def parB (P : Program) : T → List TypeId → Bool
  | .nil, [] => true
  | .cons a b, i :: l => (tyB P a).ty i && (posB P a).ty i && P.readableRec i && Nat.blt i P.types.size && parB P b l
  | _, _ => false

theorem open_args {r : Reach} {b0 : Nat} : ∀ {A : T} {ts : List TypeId} {vs : List Value} {ds : List (DataW H)} {ps : List MemPlace}, parB P A ts = true → (∀ (j : Nat) t v, ts[j]? = some t → vs[j]? = some v → Value.okWide P W r b0 t v) →
    DataW.TrodAll enc P W 0 (fun _ => true) true ts vs ds ps → (DataW.weightsEach P ts ds).all (· ≤ reachBytes) = true → ∃ x, (reps P A).v W (fun b => b < W.heap.size) x vs []
  | .nil, [], vs, ds, ps, _, _, h, _ => by
    obtain ⟨rfl, rfl, rfl⟩ := trodAll_nil h
    exact ⟨(), rfl, rfl⟩
  | .cons a b, i :: l, vs, ds, ps, hp, hv, h, hw => by
    simp only [parB, Bool.and_eq_true] at hp
    obtain ⟨v, vs', d, ds', p, q, rfl, rfl, rfl, h1, h2⟩ := trodAll_cons h
    simp only [DataW.weightsEach] at hw
    obtain ⟨hw1, hw2⟩ := all_app hw
    obtain ⟨x, hx⟩ := open_arg ((tyB_ok P a).1 i hp.1.1.1.1) hp.1.1.1.2 (hv 0 i v rfl rfl) h1 hw1
    obtain ⟨y, hy⟩ := open_args (A := b) hp.2 (fun j t v h h' => hv (j + 1) t v (by simpa using h) (by simpa using h')) h2 hw2
    exact ⟨(x, y), v, vs', [], [], rfl, rfl, hx, hy⟩
  | .nil, _ :: _, _, _, _, hp, _, _, _ => by simp [parB] at hp
  | .cons _ _, [], _, _, _, hp, _, _, _ => by simp [parB] at hp
  | .int, _, _, _, _, hp, _, _, _ => by simp [parB] at hp
  | .bool, _, _, _, _, hp, _, _, _ => by simp [parB] at hp
  | .sl _, _, _, _, _, hp, _, _, _ => by simp [parB] at hp
  | .osl _, _, _, _, _, hp, _, _, _ => by simp [parB] at hp
  | .ref _, _, _, _, _, hp, _, _, _ => by simp [parB] at hp
  | .arr _ _, _, _, _, _, hp, _, _, _ => by simp [parB] at hp
  | .fn _ _, _, _, _, _, hp, _, _, _ => by simp [parB] at hp

theorem shut_args (hl : laidOutB P = true) {W' : World} (hb : Below W.heap.size W W') : ∀ {A : T} {ts : List TypeId} {vs : List Value} {ds : List (DataW H)} {ps : List MemPlace}, parB P A ts = true →
    DataW.TrodAll enc P W 0 (fun _ => true) true ts vs ds ps → ∀ sp : Nat → Bool, (∀ p ∈ ps, sp p.block = true) → DataW.TrodAll enc P W' 0 sp true ts vs ds ps
  | .nil, [], vs, ds, ps, _, h, _, _ => by
    obtain ⟨rfl, rfl, rfl⟩ := trodAll_nil h
    exact trodAll_mk0
  | .cons a b, i :: l, vs, ds, ps, hp, h, sp, hsp => by
    have hlt := DataW.TrodAll.lt h
    simp only [parB, Bool.and_eq_true] at hp
    obtain ⟨v, vs', d, ds', p, q, rfl, rfl, rfl, h1, h2⟩ := trodAll_cons h
    refine trodAll_cons_mk (WideElems.Trod_stays hl hp.1.1.2 (by have := hp.1.2; simpa [Nat.blt_eq] using this) h1 (fun x hx => hb.same (hlt x (List.mem_append_left _ hx))) (fun x hx => hsp x (List.mem_append_left _ hx)))
      (shut_args hl hb (A := b) hp.2 h2 sp fun x hx => hsp x (List.mem_append_right _ hx))
  | .nil, _ :: _, _, _, _, hp, _, _, _ => by simp [parB] at hp
  | .cons _ _, [], _, _, _, hp, _, _, _ => by simp [parB] at hp
  | .int, _, _, _, _, hp, _, _, _ => by simp [parB] at hp
  | .bool, _, _, _, _, hp, _, _, _ => by simp [parB] at hp
  | .sl _, _, _, _, _, hp, _, _, _ => by simp [parB] at hp
  | .osl _, _, _, _, _, hp, _, _, _ => by simp [parB] at hp
  | .ref _, _, _, _, _, hp, _, _, _ => by simp [parB] at hp
  | .arr _ _, _, _, _, _, hp, _, _, _ => by simp [parB] at hp
  | .fn _ _, _, _, _, _, hp, _, _, _ => by simp [parB] at hp

theorem v_wf : ∀ {A : T} {w : World} {S : Nat → Prop} {x : A.den} {vs : List Value}, (reps P A).v w S x vs [] → isTup A = true → A.wf x
  | .nil, _, _, _, _, _, _ => trivial
  | .cons a b, w, S, x, vs, ⟨v, vs', b1, b2, e, e2, h1, h2⟩, ht => by
    obtain ⟨rfl, rfl⟩ := List.append_eq_nil_iff.1 e2.symm
    have ht' : isTup b = true := by cases a <;> simp_all [isTup]
    refine ⟨?_, v_wf h2 ht'⟩
    cases a
    case osl s => simp [isTup] at ht
    all_goals (obtain ⟨_, cs, _, hc⟩ := h1; exact c_wf (P := P) (w := w) (S := S) _ hc)
  | .int, _, _, _, _, h, _ => h.elim
  | .bool, _, _, _, _, h, _ => h.elim
  | .sl _, _, _, _, _, h, _ => h.elim
  | .osl _, _, _, _, _, h, _ => h.elim
  | .ref _, _, _, _, _, h, _ => h.elim
  | .arr _ _, _, _, _, _, h, _ => h.elim
  | .fn _ _, _, _, _, _, h, _ => h.elim

end

theorem trod_len {H : Type} {enc : TypeId × Value → H} {P : Program} {w : World} : ∀ {ts : List TypeId} {vs : List Value} {ds : List (DataW H)} {ps : List MemPlace}, DataW.TrodAll enc P w 0 (fun _ => true) true ts vs ds ps → ds.length = ts.length
  | [], _, _, _, h => by
    obtain ⟨rfl, rfl, rfl⟩ := trodAll_nil h
    rfl
  | _ :: _, _, _, _, h => by
    obtain ⟨v, vs1, d, ds1, a, b, rfl, rfl, rfl, h1, h2⟩ := trodAll_cons h
    simp [trod_len h2]

/-- From the contract of a law's function to what the statement asks of each call. -/
theorem lifts {H : Type} {enc : TypeId × Value → H} {C : Checked} {os : Os} {f : FuncId} {fn : Func} {s : ChangeSpec} {A : T} {pre : A.den → Prop} {F : A.den → (T.cons .bool .nil).den} {al : Bool} (own : ownKnob C.prog.godebug = none) (hl : laidOutB C.prog = true) (noInit : C.prog.inits.idxOf? f = none) (hfn : C.prog.funcs[f]? = some fn)
    (hA : (isTup A && parB C.prog A fn.params.toList) = true) {tb : TypeId} (hr : fn.resultTypes = #[tb]) (htb : C.prog.underlying tb = some .bool)
    (hv : s.vars = []) (hs : ∀ ds : List (DataW H), ds.length = fn.params.toList.length → s.fn H ds = { results := [.lit (.bool true)], args := ds })
    (hc : ConOK C.prog f { A := A, R := .cons .bool .nil, pre := pre, F := F, al := al }) (ht : ∀ x, A.wf x → pre x ∧ F x = (true, ())) (started : os.Started)
    (witness : ∃ (w : World) (tape : Tape) (i : Input), w.os = os ∧ (w.forCall tape i).Shaped C.prog ∧ i.vars = [] ∧ Input.okWide C.prog (w.forCall tape i) .any w.heap.size f i ∧
      s.pre6 enc C.prog fn [] false (w.forCall tape i).memory i.args ∧ ({} : Assume).holds C.prog (lone (Frame.enter C.prog f i.args .normal) [] (w.forCall tape i))) :
    ReturnsInHanded {} C os f .any (s.pre6 enc C.prog fn [] false) (s.post enc C.prog fn false true false false) := by
  refine returnsInHanded_of_change_sized own started noInit hfn witness ?_
  intro W base args ds gs before hval hW _ hw _
  have hW' := hW
  rw [Bool.and_eq_true] at hA
  obtain ⟨p, q, h1, hV, rfl, hfz, hnd⟩ := hW
  rw [hv] at hV
  obtain ⟨rfl, rfl⟩ := trodVars_none hV
  have hw : (DataW.weightsEach C.prog fn.params.toList ds).all (· ≤ reachBytes) = true := by
    have e : s.plain.varTypes C.prog = [] := by simp [ChangeSpec.plain, hv, DataSpec.varTypes]
    simpa [e] using hw
  obtain ⟨x, hx⟩ := open_args (A := A) hA.2 (fun j t v h h' => hval j t v (by simpa using h) (by simpa using h')) h1 hw
  obtain ⟨hpre, hF⟩ := ht x (v_wf hx hA.1)
  have hcall := hc.1 rfl W (fun b => b < W.heap.size) x args.toList hx hpre
  rw [Array.toArray_toList] at hcall
  have hlen : ds.length = fn.params.toList.length := (trod_len h1)
  refine hcall.mono fun e W' ⟨rs, bs, he, hres, _, _, hb⟩ => ?_
  have hrs : rs = [.bool true] := by
    obtain ⟨v, vs', b1, b2, e1, e2, ⟨e3, cs, e4, e5⟩, e6, e7⟩ := hres
    have e5 : cs = [.bool (F x).1] := e5
    rw [hF] at e5
    subst e5; subst e6
    rw [e1, e4]; rfl
  subst hrs
  subst he
  have hlt : ∀ p' ∈ p, p'.block < W.heap.size := DataW.TrodAll.lt h1
  have hold : ∀ p' ∈ p, (fun b => decide (b < W.heap.size)) p'.block = true := fun p' hp => by simpa using hlt p' hp
  refine ⟨_, rfl, ds, [], p ++ [], [], p, [], hW', ?_, ?_, ?_, World.keptBut_mono (fun p' hp => ⟨hp, ?_⟩) (hb.frame (· ∈ p ++ [])), fun h => by cases h⟩
  · rw [List.append_nil, hs ds hlen, hr]
    exact trodAll_mk1 (shut_bool htb true)
  · rw [List.append_nil, hs ds hlen]
    exact shut_args hl hb (A := A) hA.2 h1 _ hold
  · rw [List.append_nil, hs ds hlen, hv]
    exact rfl
  · exact .inr (.inl (by simpa using hp))

end Go.Tk
