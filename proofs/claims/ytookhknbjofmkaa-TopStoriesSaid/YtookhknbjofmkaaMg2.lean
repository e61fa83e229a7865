/- Merged: C7c P1r C1r C1q P2 C2 P2t C2t C7g C7d C7e C7b C7l EngX P4m C4a P4n C4b C4c P4o P4p P4q. -/
import Derived.Test.YtookhknbjofmkaaMg1
import Derived.Test.YtookhknbjofmkaaEngW
import Derived.Lib.SlKeysI
import Derived.Lib.SlMapMerge
import Derived.Maps.Views
import Derived.Test.YtookhknbjofmkaaTy
import Derived.WalkKit
import Derived.Maps.OwnSet
import Derived.Maps.Range
import Derived.Maps.RangeWalk
set_option linter.unusedSimpArgs false
set_option linter.unusedVariables false
set_option linter.unnecessarySimpa false
namespace Go.Tk
open Go Go.RowKit
def bitQ (t k : Int) : Int := IntKind.i64.wrap (BitVec.ofInt 64 (Int.fdiv t (2 ^ (Int.toNat k))) &&& BitVec.ofInt 64 (1 : Int)).toNat
def orQ (t n : Int) : Int := IntKind.i64.wrap (BitVec.ofInt 64 t ||| BitVec.ofInt 64 ((1 : Int) * 2 ^ (Int.toNat n))).toNat
theorem bitQ_all : ∀ t : Nat, t < 256 → ∀ k : Nat, k < 8 → bitQ t k = if t.testBit k = true then 1 else 0 := by decide +kernel
theorem orQ_all : ∀ t : Nat, t < 256 → ∀ n : Nat, n < 8 → orQ t n = ((t ||| 2 ^ n : Nat) : Int) := by decide +kernel
theorem powQ (n : Nat) : (1 : Int) * 2 ^ (Int.toNat (n : Int)) = ((2 ^ n : Nat) : Int) := by
  rw [Int.one_mul, Int.toNat_natCast, Int.natCast_pow]; rfl
theorem inI_pow {n : Nat} (h : n < 8) : inI ((1 : Int) * 2 ^ (Int.toNat (n : Int))) := by
  rw [powQ]
  have := pow_le8 (N := n) (by omega)
  generalize 2 ^ n = q at this ⊢
  unfold inI; omega
def cntV (p : List Lin) (h : List (List Edt)) : Int := if err7 p h = 0 then (cntL h : Int) else 0
def lastO (p : List Lin) (h : List (List Edt)) : List Int := if err7 p h = 0 then lastL h else []
/-- What the table holds. -/
def Tab (fr : Nat → Nat → Bool) (N t n : Nat) (W : List Int) : Prop := W.length = 2 ^ N ∧ ∀ s, s < 2 ^ N → W.getD s 0 = (part fr N t n s : Int)
theorem Tab.start (fr : Nat → Nat → Bool) (N : Nat) : Tab fr N 0 0 ((List.replicate (2 ^ N) (0 : Int)).set 0 1) := by
  refine ⟨by simp, fun s hs => ?_⟩
  rw [getD_setL (by simp; exact Nat.two_pow_pos _), part_zero]
  by_cases e : s = 0
  · subst e; simp
  · rw [if_neg (fun q => e q.symm), if_neg e]
    simp [List.getD_eq_getElem?_getD, List.getElem?_replicate, hs]
theorem Tab.step {fr : Nat → Nat → Bool} {N t n : Nat} {W : List Int} (h : Tab fr N t n W) (hN : N ≤ 8) (hn : n < N) (ht : t < 2 ^ N) (hf : fr t n = true) (hb : fr t n = true → t.testBit n = false) : Tab fr N t (n + 1) (W.set (t ||| 2 ^ n) (W.getD (t ||| 2 ^ n) 0 + W.getD t 0)) := by
  have p8 := pow_le8 hN
  have hu := or_lt ht hn
  refine ⟨by simpa using h.1, fun s hs => ?_⟩
  rw [getD_setL (by rw [h.1]; exact hu), part_step hN hn (by omega) (by omega) hb, h.2 _ hu, h.2 _ ht, part_full hN (by omega) (Nat.le_refl t)]
  by_cases e : t ||| 2 ^ n = s
  · subst e; rw [if_pos rfl, if_pos ⟨rfl, hf⟩]; omega
  · rw [if_neg e, if_neg (fun q => e q.1.symm), h.2 _ hs]; omega
theorem Tab.skip {fr : Nat → Nat → Bool} {N t n : Nat} {W : List Int} (h : Tab fr N t n W) (hN : N ≤ 8) (hn : n < N) (ht : t < 2 ^ N) (hf : fr t n = false ∨ cnt fr N t = 0) (hb : fr t n = true → t.testBit n = false) : Tab fr N t (n + 1) W := by
  have p8 := pow_le8 hN
  refine ⟨h.1, fun s hs => ?_⟩
  rw [part_step hN hn (by omega) (by omega) hb, h.2 _ hs]
  rcases hf with hf | hf
  · rw [if_neg (fun q => by rw [hf] at q; cases q.2)]; omega
  · rw [hf]; split <;> omega
theorem Tab.next {fr : Nat → Nat → Bool} {N t : Nat} {W : List Int} (h : Tab fr N t N W) : Tab fr N (t + 1) 0 W := ⟨h.1, fun s hs => by rw [h.2 s hs, part_next]⟩
theorem Tab.bd {fr : Nat → Nat → Bool} {N t n : Nat} {W : List Int} (h : Tab fr N t n W) (hN : N ≤ 8) {s : Nat} (hs : s < 2 ^ N) : 0 ≤ W.getD s 0 ∧ W.getD s 0 ≤ 16777216 := by
  have p8 := pow_le8 hN
  rw [h.2 s hs]
  have := part_le (fr := fr) (s := s) hN (by omega) t n
  have := cnt_small (fr := fr) (t := s) hN (by omega)
  omega
theorem Tab.at {fr : Nat → Nat → Bool} {N t n : Nat} {W : List Int} (h : Tab fr N t n W) (hN : N ≤ 8) (ht : t < 2 ^ N) : W.getD t 0 = (cnt fr N t : Int) := by
  have p8 := pow_le8 hN
  rw [h.2 t ht, part_full hN (by omega) (Nat.le_refl t)]
theorem Tab.fin {fr : Nat → Nat → Bool} {N : Nat} {W : List Int} (h : Tab fr N (2 ^ N) 0 W) (hN : N ≤ 8) : W.getD (seg N) 0 = (cnt fr N (seg N) : Int) := by
  have p8 := pow_le8 hN
  have := seg_lt (Nat.le_refl N)
  rw [h.2 _ this, part_full hN (by omega) (by omega)]

abbrev cFree71G : Con := { A := (.cons .int (.cons (.ref .int) .nil)), R := (.cons .bool .nil), pre := fun x => 0 ≤ x.1 ∧ x.1 < 8 ∧ 0 ≤ x.2.1 ∧ x.2.1 < 256, F := fun x => (!((Int.toNat x.2.1).testBit (Int.toNat x.1)), ()) }
def cFree71G_0  (k : Int) (c0 : Int) (y0 : Bool) : Prop :=
  (0 ≤ k ∧ k < 64) ∧ (True ∧ (((IntKind.i64.wrap (BitVec.ofInt 64 (Int.fdiv c0 (2 ^ (Int.toNat k))) &&& BitVec.ofInt 64 (1 : Int)).toNat) == (0 : Int)) = y0 ∧ True))
theorem cFree71G_law (h : ∀ (k : Int) (c0 : Int), cFree71G.A.wf (k, c0, ()) → (0 ≤ k ∧ k < 8 ∧ 0 ≤ c0 ∧ c0 < 256) → cFree71G_0  k c0 (!((Int.toNat c0).testBit (Int.toNat k)))) : ConOK Go.Proofs.Try.prog 140 cFree71G := by
  refine lawL (Γ := []) (Θ := Th) (n := 9) [] trivial (by kernel_rfl) th_ok mix_ok Go.Proofs.Try.func140 (by kernel_rfl) ?_
  intro x hw hp Λ hC
  have h0 := h x.1 x.2.1 hw hp  
  exact Eq.mpr (by kernel_rfl) h0
theorem cFree71G_ok : ConOK Go.Proofs.Try.prog 140 cFree71G := by
  refine cFree71G_law ?_
  intro k c0 hw hp
  unfold cFree71G_0
  obtain ⟨p1, p2, p3, p4⟩ := hp
  obtain ⟨K, rfl⟩ := Int.eq_ofNat_of_zero_le p1
  obtain ⟨T, rfl⟩ := Int.eq_ofNat_of_zero_le p3
  refine ⟨⟨p1, by omega⟩, trivial, ?_, trivial⟩
  show (bitQ T K == 0) = !(T.testBit K)
  rw [bitQ_all T (by omega) K (by omega)]
  cases T.testBit K <;> rfl
abbrev cFree7G : Con := { A := (.cons (.sl (.sl tEd)) (.cons .int (.cons .int .nil))), R := (.cons .bool .nil), pre := fun x => 0 ≤ x.2.2.1 ∧ x.2.2.1 < (x.1.length : Int) ∧ x.1.length ≤ 8 ∧ 0 ≤ x.2.1 ∧ x.2.1 < 256, F := fun x => (frD x.1 (Int.toNat x.2.1) (Int.toNat x.2.2.1), ()) }
def cFree7G_0  (h : (List (List Edt))) (done : Int) (n : Int) (y0 : Bool) : Prop :=
  (0 ≤ n ∧ n < 64) ∧ (True ∧ (if ((IntKind.i64.wrap (BitVec.ofInt 64 (Int.fdiv done (2 ^ (Int.toNat n))) &&& BitVec.ofInt 64 (1 : Int)).toNat) == (0 : Int)) = true then ((0 ≤ n ∧ n < (h.length : Int) ∧ h.length ≤ 8) ∧ ((∀ r' ∈ (dirTo h n (Int.toNat n)), (fun (xx : (Int × Unit)) => 0 ≤ xx.1 ∧ xx.1 < 8 ∧ 0 ≤ done ∧ done < 256, fun (xx : (Int × Unit)) => (!((Int.toNat done).testBit (Int.toNat xx.1)), ())).1 (r', ())) ∧ (True ∧ ((bif true then (!((dirTo h n (Int.toNat n)).any (fun r' => ((fun (xx : (Int × Unit)) => 0 ≤ xx.1 ∧ xx.1 < 8 ∧ 0 ≤ done ∧ done < 256, fun (xx : (Int × Unit)) => (!((Int.toNat done).testBit (Int.toNat xx.1)), ())).2 (r', ())).1))) else false) = y0 ∧ True)))) else (false = false ∧ (false = y0 ∧ True))))
theorem cFree7G_law (h : ∀ (h : (List (List Edt))) (done : Int) (n : Int), cFree7G.A.wf (h, done, n, ()) → (0 ≤ n ∧ n < (h.length : Int) ∧ h.length ≤ 8 ∧ 0 ≤ done ∧ done < 256) → cFree7G_0  h done n (frD h (Int.toNat done) (Int.toNat n))) : ConOK Go.Proofs.Try.prog 95 cFree7G := by
  refine lawX (X := { subs := [], frz := [4], U := [], mul := [], nst := [], nls := [], itf := none, inp := [], arrs := [] }) (hX := xok0 _ trivial) (Γ := [(114, cContI2), (139, cDirect0), (140, cFree71G)]) (Θ := Th) (n := 20) [] ⟨cContI2_ok, cDirect0_ok, cFree71G_ok, trivial⟩ (by kernel_rfl) th_ok mix_ok Go.Proofs.Try.func95 (by kernel_rfl) ?_
  intro x hw hp Λ hC
  have h0 := h x.1 x.2.1 x.2.2.1 hw hp  
  exact Eq.mpr (by kernel_rfl) h0
theorem cFree7G_ok : ConOK Go.Proofs.Try.prog 95 cFree7G := by
  refine cFree7G_law ?_
  intro h done n hw hp
  unfold cFree7G_0
  obtain ⟨p1, p2, p3, p4, p5⟩ := hp
  obtain ⟨N, rfl⟩ := Int.eq_ofNat_of_zero_le p1
  obtain ⟨T, rfl⟩ := Int.eq_ofNat_of_zero_le p4
  refine ⟨⟨p1, by omega⟩, trivial, ?_⟩
  show if (bitQ T N == 0) = true then _ else _
  rw [bitQ_all T (by omega) N (by omega)]
  have hm : ∀ x, x ∈ dirTo h (N : Int) N ↔ ∃ k : Nat, k < N ∧ x = (k : Int) ∧ tch h k N = true := fun x => by rw [dirTo_sel, selTo_mem]
  cases hb : T.testBit N
  · rw [if_pos (by rfl)]
    refine ⟨⟨p1, p2, p3⟩, fun k hk => ?_, trivial, ?_, trivial⟩
    · obtain ⟨j, j1, j2, j3⟩ := (hm k).1 hk
      exact ⟨by show 0 ≤ k; omega, by show k < 8; omega, p4, p5⟩
    · show (!((dirTo h (N : Int) N).any fun r => !(T.testBit r.toNat))) = frD h T N
      rw [Bool.eq_iff_iff, frD_iff, Bool.not_eq_true', List.any_eq_false]
      constructor
      · intro q
        refine ⟨hb, fun k hk ht => ?_⟩
        have := q (k : Int) ((hm k).2 ⟨k, hk, rfl, ht⟩)
        simpa using this
      · rintro ⟨_, q⟩ x hx
        obtain ⟨k, k1, k2, k3⟩ := (hm x).1 hx
        subst k2
        rw [Int.toNat_natCast, q k k1 k3]; simp
  · rw [if_neg (by simp)]
    refine ⟨rfl, ?_, trivial⟩
    show false = frD h T N
    unfold frD; rw [hb]; rfl
abbrev cCountG : Con := { A := (.cons (.sl tL) (.cons (.sl (.sl tEd)) .nil)), R := (.cons .int (.cons .int .nil)), pre := fun x => True, F := fun x => (cntV x.1 x.2.1, err7 x.1 x.2.1, ()) }
def cCountG_0 (Λ1 : Int → (List Int) → Prop) (Λ2 : Int → Int → (List Int) → Prop) (p : (List Lin)) (h : (List (List Edt))) (y0 : Int) (y1 : Int) : Prop :=
  True ∧ (if ((err7 p h) != (0 : Int)) = true then ((0 : Int) = y0 ∧ (err7 p h) = y1 ∧ True) else ((0 ≤ (List.length h : Int) ∧ (List.length h : Int) < 64 ∧ inI ((1 : Int) * 2 ^ (Int.toNat (List.length h : Int)))) ∧ (mkLen ((1 : Int) * 2 ^ (Int.toNat (List.length h : Int))) ((1 : Int) * 2 ^ (Int.toNat (List.length h : Int))) ∧ (idx (0 : Int) (List.length (List.replicate (Int.toNat ((1 : Int) * 2 ^ (Int.toNat (List.length h : Int)))) (0 : Int)) : Int) ∧ Λ1 (0 : Int) (List.set (List.replicate (Int.toNat ((1 : Int) * 2 ^ (Int.toNat (List.length h : Int)))) (0 : Int)) (Int.toNat (0 : Int)) 1)))))
def cCountG_1 (Λ1 : Int → (List Int) → Prop) (Λ2 : Int → Int → (List Int) → Prop) (p : (List Lin)) (h : (List (List Edt))) (y0 : Int) (y1 : Int)  (t24_1 : Int) (ways_1 : (List Int)) : Prop :=
  if (decide (t24_1 < (List.length (List.set (List.replicate (Int.toNat ((1 : Int) * 2 ^ (Int.toNat (List.length h : Int)))) (0 : Int)) (Int.toNat (0 : Int)) 1) : Int))) = true then Λ2 t24_1 (0 : Int) ways_1 else (inI ((List.length ways_1 : Int) - (1 : Int)) ∧ (idx ((List.length ways_1 : Int) - (1 : Int)) (List.length ways_1 : Int) ∧ ((List.getD ways_1 (Int.toNat ((List.length ways_1 : Int) - (1 : Int))) 0) = y0 ∧ (0 : Int) = y1 ∧ True)))
def cCountG_2 (Λ1 : Int → (List Int) → Prop) (Λ2 : Int → Int → (List Int) → Prop) (p : (List Lin)) (h : (List (List Edt))) (y0 : Int) (y1 : Int) (t24_1 : Int) (t29_2 : Int) (ways_2 : (List Int)) : Prop :=
  if (decide (t29_2 < (List.length h : Int))) = true then (idx t24_1 (List.length ways_2 : Int) ∧ (if (decide ((List.getD ways_2 (Int.toNat t24_1) 0) > (0 : Int))) = true then ((0 ≤ t29_2 ∧ t29_2 < (h.length : Int) ∧ h.length ≤ 8 ∧ 0 ≤ t24_1 ∧ t24_1 < 256) ∧ (True ∧ (if (bif true then (frD h (Int.toNat t24_1) (Int.toNat t29_2)) else false) = true then ((0 ≤ t29_2 ∧ t29_2 < 64 ∧ inI ((1 : Int) * 2 ^ (Int.toNat t29_2))) ∧ (True ∧ (idx (IntKind.i64.wrap (BitVec.ofInt 64 t24_1 ||| BitVec.ofInt 64 ((1 : Int) * 2 ^ (Int.toNat t29_2))).toNat) (List.length ways_2 : Int) ∧ (idx t24_1 (List.length ways_2 : Int) ∧ (inI ((List.getD ways_2 (Int.toNat (IntKind.i64.wrap (BitVec.ofInt 64 t24_1 ||| BitVec.ofInt 64 ((1 : Int) * 2 ^ (Int.toNat t29_2))).toNat)) 0) + (List.getD ways_2 (Int.toNat t24_1) 0)) ∧ (idx (IntKind.i64.wrap (BitVec.ofInt 64 t24_1 ||| BitVec.ofInt 64 ((1 : Int) * 2 ^ (Int.toNat t29_2))).toNat) (List.length ways_2 : Int) ∧ (inI (t29_2 + (1 : Int)) ∧ Λ2 t24_1 (t29_2 + (1 : Int)) (List.set ways_2 (Int.toNat (IntKind.i64.wrap (BitVec.ofInt 64 t24_1 ||| BitVec.ofInt 64 ((1 : Int) * 2 ^ (Int.toNat t29_2))).toNat)) ((List.getD ways_2 (Int.toNat (IntKind.i64.wrap (BitVec.ofInt 64 t24_1 ||| BitVec.ofInt 64 ((1 : Int) * 2 ^ (Int.toNat t29_2))).toNat)) 0) + (List.getD ways_2 (Int.toNat t24_1) 0)))))))))) else (inI (t29_2 + (1 : Int)) ∧ Λ2 t24_1 (t29_2 + (1 : Int)) ways_2)))) else (false = false ∧ (inI (t29_2 + (1 : Int)) ∧ Λ2 t24_1 (t29_2 + (1 : Int)) ways_2)))) else (inI (t24_1 + (1 : Int)) ∧ Λ1 (t24_1 + (1 : Int)) ways_2)
theorem cCountG_law (h : ∀ (p : (List Lin)) (h : (List (List Edt))), cCountG.A.wf (p, h, ()) → ∀ (Λ1 : Int → (List Int) → Prop) (Λ2 : Int → Int → (List Int) → Prop), (∀ (t24_1 : Int) (ways_1 : (List Int)), cCountG_1 Λ1 Λ2 p h (cntV p h) (err7 p h) t24_1 ways_1 → Λ1 t24_1 ways_1) → (∀ (t24_1 : Int) (t29_2 : Int) (ways_2 : (List Int)), cCountG_2 Λ1 Λ2 p h (cntV p h) (err7 p h) t24_1 t29_2 ways_2 → Λ2 t24_1 t29_2 ways_2) → cCountG_0 Λ1 Λ2 p h (cntV p h) (err7 p h)) : ConOK Go.Proofs.Try.prog 33 cCountG := by
  refine lawL (Γ := [(95, cFree7G), (36, cVal7)]) (Θ := Th) (n := 64) [([1, 1, 1, 1, 0, 1, 0], ⟨[(1, false), (7, true), (23, true), (24, true)], [(19, true)]⟩), ([1, 1, 1, 1, 0, 1, 0, 0, 1, 1, 0, 0, 1, 1, 0], ⟨[(1, false), (7, true), (8, true), (23, true), (24, true), (28, true), (29, true)], [(19, true)]⟩)] ⟨cFree7G_ok, cVal7_ok, trivial⟩ (by kernel_rfl) th_ok mix_ok Go.Proofs.Try.func33 (by kernel_rfl) ?_
  intro x hw hp Λ hC
  have h0 := h x.1 x.2.1 hw (fun t24_1 ways_1 => Λ [1, 1, 1, 1, 0, 1, 0] ([(1, .d false (.sl (.sl tEd)) x.2.1), (7, .own 19 0), (23, .d true .int (List.length (List.set (List.replicate (Int.toNat ((1 : Int) * 2 ^ (Int.toNat (List.length x.2.1 : Int)))) (0 : Int)) (Int.toNat (0 : Int)) 1) : Int)), (24, .d true .int t24_1)], [(19, .sl true .int ways_1)])) (fun t24_1 t29_2 ways_2 => Λ [1, 1, 1, 1, 0, 1, 0, 0, 1, 1, 0, 0, 1, 1, 0] ([(1, .d false (.sl (.sl tEd)) x.2.1), (7, .own 19 0), (8, .d true .int t24_1), (23, .d true .int (List.length (List.set (List.replicate (Int.toNat ((1 : Int) * 2 ^ (Int.toNat (List.length x.2.1 : Int)))) (0 : Int)) (Int.toNat (0 : Int)) 1) : Int)), (24, .d true .int t24_1), (28, .d true .int (List.length x.2.1 : Int)), (29, .d true .int t29_2)], [(19, .sl true .int ways_2)])) (fun t24_1 ways_1 hb => hC [1, 1, 1, 1, 0, 1, 0] ([(1, .d false (.sl (.sl tEd)) x.2.1), (7, .own 19 0), (23, .d true .int (List.length (List.set (List.replicate (Int.toNat ((1 : Int) * 2 ^ (Int.toNat (List.length x.2.1 : Int)))) (0 : Int)) (Int.toNat (0 : Int)) 1) : Int)), (24, .d true .int t24_1)], [(19, .sl true .int ways_1)]) (Eq.mpr (by kernel_rfl) hb)) (fun t24_1 t29_2 ways_2 hb => hC [1, 1, 1, 1, 0, 1, 0, 0, 1, 1, 0, 0, 1, 1, 0] ([(1, .d false (.sl (.sl tEd)) x.2.1), (7, .own 19 0), (8, .d true .int t24_1), (23, .d true .int (List.length (List.set (List.replicate (Int.toNat ((1 : Int) * 2 ^ (Int.toNat (List.length x.2.1 : Int)))) (0 : Int)) (Int.toNat (0 : Int)) 1) : Int)), (24, .d true .int t24_1), (28, .d true .int (List.length x.2.1 : Int)), (29, .d true .int t29_2)], [(19, .sl true .int ways_2)]) (Eq.mpr (by kernel_rfl) hb))
  exact Eq.mpr (by kernel_rfl) h0
theorem cCountG_ok : ConOK Go.Proofs.Try.prog 33 cCountG := by
  refine cCountG_law ?_
  intro p h hw Λ1 Λ2 h1 h2
  unfold cCountG_0
  refine ⟨trivial, ?_⟩
  by_cases e : err7 p h = 0
  · rw [if_neg (by simp [e])]
    have h8 := (err7_ok e).2.1
    have p8 := pow_le8 h8
    have hb : ∀ t n, frD h t n = true → t.testBit n = false := fun t n q => (frD_iff.1 q).1
    rw [powQ, Int.toNat_natCast]
    have key : ∀ W, Tab (frD h) h.length 0 0 W → Λ1 (((0 : Nat) : Int)) W := by
      refine upto (n := 2 ^ h.length) (Q := fun t => ∀ W, Tab (frD h) h.length t 0 W → Λ1 (t : Int) W) ?_ ?_ 0 (Nat.zero_le _)
      · intro W hW
        apply h1; unfold cCountG_1
        rw [powQ, Int.toNat_natCast, if_neg (by simp), hW.1]
        have e2 : (((2 ^ h.length : Nat) : Int) - 1).toNat = seg h.length := by unfold seg; omega
        rw [e2]
        have := Nat.two_pow_pos h.length
        refine ⟨by unfold inI; omega, ⟨by omega, by omega⟩, ?_, e.symm, trivial⟩
        rw [hW.fin h8]; unfold cntV; rw [if_pos e]; rfl
      · intro t ht ih W hW
        apply h1; unfold cCountG_1
        rw [powQ, Int.toNat_natCast, if_pos (by rw [decide_eq_true_eq, List.length_set, List.length_replicate]; omega)]
        refine upto (n := h.length) (Q := fun n => ∀ W, Tab (frD h) h.length t n W → Λ2 (t : Int) (n : Int) W) ?_ ?_ 0 (Nat.zero_le _) W hW
        · intro W hW
          apply h2; unfold cCountG_2
          rw [if_neg (by simp)]
          exact ⟨by unfold inI; omega, ih W hW.next⟩
        · intro n hn ihn W hW
          have oq := orQ_all t (by omega) n (by omega)
          have bt := hW.bd h8 ht
          have bu := hW.bd h8 (or_lt ht hn)
          have ou := or_lt ht hn
          apply h2; unfold cCountG_2
          rw [if_pos (by simpa using hn)]
          refine ⟨⟨by omega, by rw [hW.1]; omega⟩, ?_⟩
          show if _ then (_ ∧ _ ∧ (if (bif true then frD h t n else false) = true then (_ ∧ _ ∧ idx (orQ t n) _ ∧ _ ∧ inI (W.getD (orQ t n).toNat 0 + W.getD t 0) ∧ idx (orQ t n) _ ∧ _ ∧ Λ2 t ((n : Int) + 1) (W.set (orQ t n).toNat (W.getD (orQ t n).toNat 0 + W.getD t 0))) else _)) else _
          rw [oq, show Int.toNat ((t ||| 2 ^ n : Nat) : Int) = t ||| 2 ^ n from rfl]
          by_cases c1 : W.getD t 0 > 0
          · rw [if_pos (by rw [decide_eq_true_eq]; exact c1)]
            refine ⟨⟨by omega, by omega, h8, by omega, by omega⟩, trivial, ?_⟩
            cases c2 : frD h t n
            · rw [if_neg (by simp)]
              exact ⟨inI_succ hn (by omega), ihn W (hW.skip h8 hn ht (.inl c2) (hb t n))⟩
            · rw [if_pos (by rfl)]
              exact ⟨⟨by omega, by omega, inI_pow (by omega)⟩, trivial, ⟨by omega, by rw [hW.1]; omega⟩, ⟨by omega, by rw [hW.1]; omega⟩, by unfold inI; omega, ⟨by omega, by rw [hW.1]; omega⟩, inI_succ hn (by omega), ihn _ (hW.step h8 hn ht c2 (hb t n))⟩
          · rw [if_neg (by rw [decide_eq_true_eq]; exact c1)]
            have z : cnt (frD h) h.length t = 0 := by have := hW.at h8 ht; omega
            exact ⟨rfl, inI_succ hn (by omega), ihn W (hW.skip h8 hn ht (.inr z) (hb t n))⟩
    have := Nat.two_pow_pos h.length
    exact ⟨⟨by omega, by omega, by unfold inI; omega⟩, ⟨by omega, by omega, rfl⟩, ⟨by omega, by rw [List.length_replicate]; omega⟩, key _ (Tab.start _ _)⟩
  · rw [if_pos (by simpa using e)]
    unfold cntV; rw [if_neg e]
    exact ⟨rfl, rfl, trivial⟩
abbrev cLastG : Con := { A := (.cons (.sl tL) (.cons (.sl (.sl tEd)) .nil)), R := (.cons (.sl .int) (.cons .int .nil)), pre := fun x => True, F := fun x => (lastO x.1 x.2.1, err7 x.1 x.2.1, ()) }
def cLastG_0 (Λ1 : Int → Int → (List Int) → Prop) (Λ2 : Int → (List Int) → Int → Int → Prop) (p : (List Lin)) (h : (List (List Edt))) (y0 : (List Int)) (y1 : Int) : Prop :=
  True ∧ (if ((err7 p h) != (0 : Int)) = true then (([] : List Int) = y0 ∧ (err7 p h) = y1 ∧ True) else Λ1 (0 : Int) (0 : Int) ([] : List Int))
def cLastG_1 (Λ1 : Int → Int → (List Int) → Prop) (Λ2 : Int → (List Int) → Int → Int → Prop) (p : (List Lin)) (h : (List (List Edt))) (y0 : (List Int)) (y1 : Int)  (done_1 : Int) (t18_1 : Int) (out_1 : (List Int)) : Prop :=
  if (decide (t18_1 < (List.length h : Int))) = true then (inI ((List.length h : Int) - (1 : Int)) ∧ Λ2 done_1 out_1 t18_1 ((List.length h : Int) - (1 : Int))) else (out_1 = y0 ∧ (0 : Int) = y1 ∧ True)
def cLastG_2 (Λ1 : Int → Int → (List Int) → Prop) (Λ2 : Int → (List Int) → Int → Int → Prop) (p : (List Lin)) (h : (List (List Edt))) (y0 : (List Int)) (y1 : Int) (done_1 : Int) (out_1 : (List Int)) (t18_1 : Int) (n_2 : Int) : Prop :=
  if (decide (n_2 ≥ (0 : Int))) = true then ((0 ≤ n_2 ∧ n_2 < (h.length : Int) ∧ h.length ≤ 8 ∧ 0 ≤ done_1 ∧ done_1 < 256) ∧ (if (frD h (Int.toNat done_1) (Int.toNat n_2)) = true then (List.length out_1 + List.length [n_2] ≤ 4294967296 ∧ ((0 ≤ n_2 ∧ n_2 < 64 ∧ inI ((1 : Int) * 2 ^ (Int.toNat n_2))) ∧ (True ∧ (inI (t18_1 + (1 : Int)) ∧ Λ1 (IntKind.i64.wrap (BitVec.ofInt 64 done_1 ||| BitVec.ofInt 64 ((1 : Int) * 2 ^ (Int.toNat n_2))).toNat) (t18_1 + (1 : Int)) (out_1 ++ [n_2]))))) else (inI (n_2 - (1 : Int)) ∧ Λ2 done_1 out_1 t18_1 (n_2 - (1 : Int))))) else (inI (t18_1 + (1 : Int)) ∧ Λ1 done_1 (t18_1 + (1 : Int)) out_1)
theorem cLastG_law (h : ∀ (p : (List Lin)) (h : (List (List Edt))), cLastG.A.wf (p, h, ()) → ∀ (Λ1 : Int → Int → (List Int) → Prop) (Λ2 : Int → (List Int) → Int → Int → Prop), (∀ (done_1 : Int) (t18_1 : Int) (out_1 : (List Int)), cLastG_1 Λ1 Λ2 p h (lastO p h) (err7 p h) done_1 t18_1 out_1 → Λ1 done_1 t18_1 out_1) → (∀ (done_1 : Int) (out_1 : (List Int)) (t18_1 : Int) (n_2 : Int), cLastG_2 Λ1 Λ2 p h (lastO p h) (err7 p h) done_1 out_1 t18_1 n_2 → Λ2 done_1 out_1 t18_1 n_2) → cLastG_0 Λ1 Λ2 p h (lastO p h) (err7 p h)) : ConOK Go.Proofs.Try.prog 37 cLastG := by
  refine lawL (Γ := [(95, cFree7G), (36, cVal7)]) (Θ := Th) (n := 41) [([1, 1, 1, 1, 0, 1, 0], ⟨[(1, false), (7, true), (8, true), (17, true), (18, true)], [(7, true)]⟩), ([1, 1, 1, 1, 0, 1, 0, 0, 1, 1, 0, 0, 1, 0], ⟨[(1, false), (7, true), (8, true), (9, true), (17, true), (18, true)], [(7, true)]⟩)] ⟨cFree7G_ok, cVal7_ok, trivial⟩ (by kernel_rfl) th_ok mix_ok Go.Proofs.Try.func37 (by kernel_rfl) ?_
  intro x hw hp Λ hC
  have h0 := h x.1 x.2.1 hw (fun done_1 t18_1 out_1 => Λ [1, 1, 1, 1, 0, 1, 0] ([(1, .d false (.sl (.sl tEd)) x.2.1), (7, .own 7 0), (8, .d true .int done_1), (17, .d true .int (List.length x.2.1 : Int)), (18, .d true .int t18_1)], [(7, .sl true .int out_1)])) (fun done_1 out_1 t18_1 n_2 => Λ [1, 1, 1, 1, 0, 1, 0, 0, 1, 1, 0, 0, 1, 0] ([(1, .d false (.sl (.sl tEd)) x.2.1), (7, .own 7 0), (8, .d true .int done_1), (9, .d true .int n_2), (17, .d true .int (List.length x.2.1 : Int)), (18, .d true .int t18_1)], [(7, .sl true .int out_1)])) (fun done_1 t18_1 out_1 hb => hC [1, 1, 1, 1, 0, 1, 0] ([(1, .d false (.sl (.sl tEd)) x.2.1), (7, .own 7 0), (8, .d true .int done_1), (17, .d true .int (List.length x.2.1 : Int)), (18, .d true .int t18_1)], [(7, .sl true .int out_1)]) (Eq.mpr (by kernel_rfl) hb)) (fun done_1 out_1 t18_1 n_2 hb => hC [1, 1, 1, 1, 0, 1, 0, 0, 1, 1, 0, 0, 1, 0] ([(1, .d false (.sl (.sl tEd)) x.2.1), (7, .own 7 0), (8, .d true .int done_1), (9, .d true .int n_2), (17, .d true .int (List.length x.2.1 : Int)), (18, .d true .int t18_1)], [(7, .sl true .int out_1)]) (Eq.mpr (by kernel_rfl) hb))
  exact Eq.mpr (by kernel_rfl) h0
theorem cLastG_ok : ConOK Go.Proofs.Try.prog 37 cLastG := by
  refine cLastG_law ?_
  intro p h hw Λ1 Λ2 h1 h2
  unfold cLastG_0
  refine ⟨trivial, ?_⟩
  by_cases e : err7 p h = 0
  · rw [if_neg (by simp [e])]
    have h8 := (err7_ok e).2.1
    have p8 := pow_le8 h8
    refine upto (n := h.length) (Q := fun i => Λ1 ((lastF (frD h) h.length i).2 : Int) (i : Int) (lastF (frD h) h.length i).1) ?_ ?_ 0 (Nat.zero_le _)
    · apply h1; unfold cLastG_1; rw [if_neg (by simp)]
      refine ⟨?_, e.symm, trivial⟩
      unfold lastO; rw [if_pos e]; rfl
    · intro i hi ih
      have s := lastF_ok h i (by omega)
      obtain ⟨m, em⟩ := s.has hi
      rw [lastF, em] at ih
      generalize (lastF (frD h) h.length i).2 = t at s em ih ⊢
      generalize (lastF (frD h) h.length i).1 = o at s ih ⊢
      have tl := s.lt
      have ol := s.len
      apply h1; unfold cLastG_1; rw [if_pos (by simpa using hi)]
      refine ⟨by unfold inI; omega, ?_⟩
      have key := upto (n := h.length) (Q := fun k => pick (frD h) t (h.length - k) = some m → Λ2 (t : Int) o (i : Int) ((h.length : Int) - 1 - k)) ?_ ?_ 0 (Nat.zero_le _) em
      · simpa using key
      · intro q
        rw [Nat.sub_self] at q; simp [pick] at q
      · intro k hk ihk q
        have e9 : ((h.length : Int) - 1 - k).toNat = h.length - 1 - k := by omega
        have e8 : ((h.length : Int) - 1 - k) = ((h.length - 1 - k : Nat) : Int) := by omega
        rw [show h.length - k = (h.length - 1 - k) + 1 by omega, pick] at q
        apply h2; unfold cLastG_2; rw [if_pos (by rw [decide_eq_true_eq]; omega)]
        refine ⟨⟨by omega, by omega, h8, by omega, by omega⟩, ?_⟩
        rw [e9, Int.toNat_natCast]
        by_cases c : frD h t (h.length - 1 - k) = true
        · rw [if_pos c] at q ⊢
          cases q
          refine ⟨by simp only [List.length_cons, List.length_nil]; omega, ⟨by omega, by omega, ?_⟩, trivial, inI_succ hi (by omega), ?_⟩
          · have := inI_pow (n := h.length - 1 - k) (by omega)
            rw [Int.toNat_natCast] at this
            exact this
          · have oq := orQ_all t (by omega) (h.length - 1 - k) (by omega)
            rw [e8]
            show Λ1 (orQ t ((h.length - 1 - k : Nat) : Int)) _ _
            rw [oq]; exact ih
        · rw [if_neg c] at q ⊢
          refine ⟨by unfold inI; omega, ?_⟩
          rw [show ((h.length : Int) - 1 - k - 1) = (h.length : Int) - 1 - ((k + 1 : Nat) : Int) by omega]
          exact ihk (by rw [show h.length - (k + 1) = h.length - 1 - k by omega]; exact q)
  · rw [if_pos (by simpa using e)]
    unfold lastO; rw [if_neg e]
    exact ⟨rfl, rfl, trivial⟩
end Go.Tk
/- Plain facts: what a run of a program does (layer 1). No program in sight. -/
set_option linter.unusedSimpArgs false
set_option linter.unusedVariables false
namespace Go.Tk
open Go Go.RowKit

def cut (n : Int) : Int := max (-999) (min 999 n)
def Rg (s : List Int) (i : Int) : Int := List.getD s i.toNat 0
/-- What a line that writes makes of a state, before it is cut. -/
def wval (l : Lin) (s : List Int) : Int :=
  if l.1 = 1 then l.2.2.1
  else if l.1 = 2 then Rg s l.2.2.1
  else if l.1 = 3 then Rg s l.2.2.1 + Rg s l.2.2.2.1
  else if l.1 = 4 then Rg s l.2.2.1 - Rg s l.2.2.2.1
  else if l.1 = 5 then min (Rg s l.2.2.1) (Rg s l.2.2.2.1)
  else max (Rg s l.2.2.1) (Rg s l.2.2.2.1)
def writes (l : Lin) : Bool := decide (1 ≤ l.1 ∧ l.1 ≤ 6)

/-- What a forced line writes: a number, if it is forced. -/
abbrev Frc := Int → Option Int
def wnum (fr : Frc) (l : Lin) (i : Nat) (s : List Int) : Int := match fr i with
  | some n => n
  | none => wval l s
def stepTo (l : Lin) (i : Nat) (s : List Int) : Nat := if l.1 = 7 ∧ Rg s l.2.2.1 < Rg s l.2.2.2.1 then i + 1 + l.2.1.toNat else i + 1
def stepS (fr : Frc) (l : Lin) (i : Nat) (s : List Int) : List Int := if writes l then s.set l.2.1.toNat (cut (wnum fr l i s)) else s
abbrev Vst := Int × List Int × Unit
def runF (p : List Lin) (fr : Frc) : Nat → Nat → List Int → List Vst × List Int
  | 0, _, s => ([], s)
  | f + 1, i, s => if i < p.length then (((i : Int), s, ()) :: (runF p fr f (stepTo (p.getD i tL.dflt) i s) (stepS fr (p.getD i tL.dflt) i s)).1, (runF p fr f (stepTo (p.getD i tL.dflt) i s) (stepS fr (p.getD i tL.dflt) i s)).2) else ([], s)
def noFrc : Frc := fun _ => none
def visits (p : List Lin) (fr : Frc) (s : List Int) : List Vst := (runF p fr (p.length + 1) 0 s).1
def endS (p : List Lin) (fr : Frc) (s : List Int) : List Int := (runF p fr (p.length + 1) 0 s).2
def runS (p : List Lin) (s : List Int) : List Int := endS p noFrc s
def doneS (p : List Lin) (s : List Int) : List Int := (visits p noFrc s).map (·.1)

theorem stepTo_gt (l : Lin) (i : Nat) (s : List Int) : i < stepTo l i s := by unfold stepTo; split <;> omega

theorem runF_more (p : List Lin) (fr : Frc) : ∀ (f i : Nat) (s : List Int), p.length < i + f → runF p fr (f + 1) i s = runF p fr f i s
  | 0, i, s, h => by
    unfold runF
    rw [if_neg (by omega)]
  | f + 1, i, s, h => by
    rw [runF]
    conv => rhs; rw [runF]
    by_cases hi : i < p.length
    · rw [if_pos hi, if_pos hi, runF_more p fr f _ _ (by have := stepTo_gt (p.getD i tL.dflt) i s; omega)]
    · rw [if_neg hi, if_neg hi]

theorem isVal_iff {n : Int} : isVal n = true ↔ -999 ≤ n ∧ n ≤ 999 := within_iff
theorem validS_iff {s : List Int} : validS s = true ↔ s.length = 4 ∧ ∀ n ∈ s, -999 ≤ n ∧ n ≤ 999 := by
  unfold validS
  rw [Bool.and_eq_true, List.all_eq_true]
  simp [isVal_iff]
theorem validS_len {s : List Int} (h : validS s = true) : s.length = 4 := (validS_iff.1 h).1
theorem validS_get {s : List Int} (h : validS s = true) (i : Int) : -999 ≤ Rg s i ∧ Rg s i ≤ 999 := by
  unfold Rg
  rcases Nat.lt_or_ge i.toNat s.length with g | g
  · exact (validS_iff.1 h).2 _ (mem_getD g)
  · rw [List.getD_eq_getElem?_getD, List.getElem?_eq_none g]; decide
theorem validS_set {s : List Int} (h : validS s = true) (i : Nat) {n : Int} (hn : -999 ≤ n ∧ n ≤ 999) : validS (s.set i n) = true := by
  rw [validS_iff] at *
  refine ⟨by simp [h.1], fun x hx => ?_⟩
  rcases List.mem_or_eq_of_mem_set hx with g | rfl
  · exact h.2 x g
  · exact hn
theorem cut_bd (n : Int) : -999 ≤ cut n ∧ cut n ≤ 999 := by unfold cut; omega
theorem stepS_ok (fr : Frc) (l : Lin) (i : Nat) {s : List Int} (h : validS s = true) : validS (stepS fr l i s) = true := by
  unfold stepS
  split
  · exact validS_set h _ (cut_bd _)
  · exact h
theorem runF_ok (p : List Lin) (fr : Frc) : ∀ (f i : Nat) (s : List Int), validS s = true → validS (runF p fr f i s).2 = true ∧ ∀ v ∈ (runF p fr f i s).1, (i : Int) ≤ v.1 ∧ v.1 < p.length ∧ validS v.2.1 = true
  | 0, i, s, h => ⟨h, fun v hv => by simp [runF] at hv⟩
  | f + 1, i, s, h => by
    rw [runF]
    split
    · rename_i hi
      obtain ⟨g1, g2⟩ := runF_ok p fr f (stepTo (p.getD i tL.dflt) i s) (stepS fr (p.getD i tL.dflt) i s) (stepS_ok fr _ i h)
      refine ⟨g1, fun v hv => ?_⟩
      rcases List.mem_cons.1 hv with rfl | hv
      · exact ⟨Int.le_refl _, by simpa using hi, h⟩
      · have g3 := g2 v hv
        have := stepTo_gt (p.getD i tL.dflt) i s
        exact ⟨by omega, g3.2.1, g3.2.2⟩
    · exact ⟨h, fun v hv => by simp at hv⟩
theorem runF_len (p : List Lin) (fr : Frc) : ∀ (f i : Nat) (s : List Int), (runF p fr f i s).1.length ≤ f
  | 0, _, _ => by simp [runF]
  | f + 1, i, s => by
    rw [runF]
    split
    · simp only [List.length_cons]
      have := runF_len p fr f (stepTo (p.getD i tL.dflt) i s) (stepS fr (p.getD i tL.dflt) i s)
      omega
    · simp
theorem runF_lt (p : List Lin) (fr : Frc) : ∀ (f i : Nat) (s : List Int), (runF p fr f i s).1.length + i ≤ max p.length i
  | 0, i, _ => by simp [runF]; omega
  | f + 1, i, s => by
    rw [runF]
    split
    · simp only [List.length_cons]
      have := runF_lt p fr f (stepTo (p.getD i tL.dflt) i s) (stepS fr (p.getD i tL.dflt) i s)
      have := stepTo_gt (p.getD i tL.dflt) i s
      omega
    · simp; omega
theorem runS_ok {p : List Lin} {s : List Int} (h : validS s = true) : validS (runS p s) = true := (runF_ok p noFrc _ 0 s h).1
theorem visits_len (p : List Lin) (fr : Frc) (s : List Int) : (visits p fr s).length ≤ p.length := by have := runF_lt p fr (p.length + 1) 0 s; unfold visits; omega
theorem visits_ok {p : List Lin} {fr : Frc} {s : List Int} (h : validS s = true) : ∀ v ∈ visits p fr s, 0 ≤ v.1 ∧ v.1 < p.length ∧ validS v.2.1 = true := fun v hv => by
  have := (runF_ok p fr _ 0 s h).2 v hv
  exact ⟨by omega, this.2⟩

def err1 (p : List Lin) (s : List Int) : Int := if validP p = 0 then argErr (validS s) else validP p
theorem err1_ok {p : List Lin} {s : List Int} (h : err1 p s = 0) : validP p = 0 ∧ validS s = true := by
  unfold err1 at h
  split at h
  · exact ⟨by assumption, argErr_zero.1 h⟩
  · rename_i g; exact absurd h g

theorem validLine_at {p : List Lin} (h : p.all validLine = true) {i : Nat} (hi : i < p.length) : validLine (p.getD i tL.dflt) = true := List.all_eq_true.1 h _ (mem_getD hi)
/-- What is known of the numbers of a right line. -/
theorem line_regs {l : Lin} (h : validLine l = true) : (2 ≤ l.1 ∧ l.1 ≤ 7 → 0 ≤ l.2.2.1 ∧ l.2.2.1 ≤ 3) ∧ (3 ≤ l.1 ∧ l.1 ≤ 7 → 0 ≤ l.2.2.2.1 ∧ l.2.2.2.1 ≤ 3) ∧ (1 ≤ l.1 ∧ l.1 ≤ 6 → 0 ≤ l.2.1 ∧ l.2.1 ≤ 3) ∧ (l.1 = 7 → 1 ≤ l.2.1 ∧ l.2.1 ≤ 8) ∧ (l.1 = 1 → -9 ≤ l.2.2.1 ∧ l.2.2.1 ≤ 9) ∧ 0 ≤ l.1 ∧ l.1 ≤ 7 := by
  obtain ⟨op, t, x, y, ⟨⟩⟩ := l
  exact validLine_regs h

/-- What a function that is handed over forces. -/
def frcOf (F : Int × Unit → Int × Bool × Unit) : Frc := fun i => if (F (i, ())).2.1 = true then some (F (i, ())).1 else none

end Go.Tk
set_option linter.unusedSimpArgs false
set_option linter.unusedVariables false
namespace Go.Tk
open Go Go.RowKit

def allOps : List Opn := [tOpn.dflt, (0, (fun (x : (Int × Int × Int × Unit)) => True, fun (x : (Int × Int × Int × Unit)) => (x.2.2.1, ())), ()), (1, (fun (x : (Int × Int × Int × Unit)) => True, fun (x : (Int × Int × Int × Unit)) => (x.1, ())), ()), (2, (fun (x : (Int × Int × Int × Unit)) => inI (x.1 + x.2.1), fun (x : (Int × Int × Int × Unit)) => (x.1 + x.2.1, ())), ()), (2, (fun (x : (Int × Int × Int × Unit)) => inI (x.1 - x.2.1), fun (x : (Int × Int × Int × Unit)) => (x.1 - x.2.1, ())), ()), (2, (fun (x : (Int × Int × Int × Unit)) => True, fun (x : (Int × Int × Int × Unit)) => (min x.1 x.2.1, ())), ()), (2, (fun (x : (Int × Int × Int × Unit)) => True, fun (x : (Int × Int × Int × Unit)) => (max x.1 x.2.1, ())), ()), (2, (T.fn (.cons .int (.cons .int (.cons .int .nil))) (.cons .int .nil)).dflt, ())]
abbrev cOp1 : Con := { A := (.cons .int (.cons .int (.cons .int .nil))), R := (.cons .int .nil), pre := fun x => True, F := fun x => (x.2.2.1, ()) }
def cOp1_0  (a : Int) (b : Int) (number : Int) (y0 : Int) : Prop :=
  number = y0 ∧ True
theorem cOp1_law (h : ∀ (a : Int) (b : Int) (number : Int), cOp1.A.wf (a, b, number, ()) → cOp1_0  a b number number) : ConOK Go.Proofs.Try.prog 161 cOp1 := by
  refine lawL (Γ := []) (Θ := Th) (n := 8) [] trivial (by kernel_rfl) th_ok mix_ok Go.Proofs.Try.func161 (by kernel_rfl) ?_
  intro x hw hp Λ hC
  have h0 := h x.1 x.2.1 x.2.2.1 hw  
  exact Eq.mpr (by kernel_rfl) h0
theorem cOp1_ok : ConOK Go.Proofs.Try.prog 161 cOp1 := by
  refine cOp1_law ?_
  intro a b number hw
  unfold cOp1_0
  exact ⟨rfl, trivial⟩
abbrev cOp2 : Con := { A := (.cons .int (.cons .int (.cons .int .nil))), R := (.cons .int .nil), pre := fun x => True, F := fun x => (x.1, ()) }
def cOp2_0  (a : Int) (b : Int) (number : Int) (y0 : Int) : Prop :=
  a = y0 ∧ True
theorem cOp2_law (h : ∀ (a : Int) (b : Int) (number : Int), cOp2.A.wf (a, b, number, ()) → cOp2_0  a b number a) : ConOK Go.Proofs.Try.prog 162 cOp2 := by
  refine lawL (Γ := []) (Θ := Th) (n := 8) [] trivial (by kernel_rfl) th_ok mix_ok Go.Proofs.Try.func162 (by kernel_rfl) ?_
  intro x hw hp Λ hC
  have h0 := h x.1 x.2.1 x.2.2.1 hw  
  exact Eq.mpr (by kernel_rfl) h0
theorem cOp2_ok : ConOK Go.Proofs.Try.prog 162 cOp2 := by
  refine cOp2_law ?_
  intro a b number hw
  unfold cOp2_0
  exact ⟨rfl, trivial⟩
abbrev cOp3 : Con := { A := (.cons .int (.cons .int (.cons .int .nil))), R := (.cons .int .nil), pre := fun x => inI (x.1 + x.2.1), F := fun x => (x.1 + x.2.1, ()) }
def cOp3_0  (a : Int) (b : Int) (number : Int) (y0 : Int) : Prop :=
  inI (a + b) ∧ ((a + b) = y0 ∧ True)
theorem cOp3_law (h : ∀ (a : Int) (b : Int) (number : Int), cOp3.A.wf (a, b, number, ()) → (inI (a + b)) → cOp3_0  a b number (a + b)) : ConOK Go.Proofs.Try.prog 163 cOp3 := by
  refine lawL (Γ := []) (Θ := Th) (n := 10) [] trivial (by kernel_rfl) th_ok mix_ok Go.Proofs.Try.func163 (by kernel_rfl) ?_
  intro x hw hp Λ hC
  have h0 := h x.1 x.2.1 x.2.2.1 hw hp  
  exact Eq.mpr (by kernel_rfl) h0
theorem cOp3_ok : ConOK Go.Proofs.Try.prog 163 cOp3 := by
  refine cOp3_law ?_
  intro a b number hw hp
  unfold cOp3_0
  exact ⟨hp, rfl, trivial⟩
abbrev cOp4 : Con := { A := (.cons .int (.cons .int (.cons .int .nil))), R := (.cons .int .nil), pre := fun x => inI (x.1 - x.2.1), F := fun x => (x.1 - x.2.1, ()) }
def cOp4_0  (a : Int) (b : Int) (number : Int) (y0 : Int) : Prop :=
  inI (a - b) ∧ ((a - b) = y0 ∧ True)
theorem cOp4_law (h : ∀ (a : Int) (b : Int) (number : Int), cOp4.A.wf (a, b, number, ()) → (inI (a - b)) → cOp4_0  a b number (a - b)) : ConOK Go.Proofs.Try.prog 164 cOp4 := by
  refine lawL (Γ := []) (Θ := Th) (n := 10) [] trivial (by kernel_rfl) th_ok mix_ok Go.Proofs.Try.func164 (by kernel_rfl) ?_
  intro x hw hp Λ hC
  have h0 := h x.1 x.2.1 x.2.2.1 hw hp  
  exact Eq.mpr (by kernel_rfl) h0
theorem cOp4_ok : ConOK Go.Proofs.Try.prog 164 cOp4 := by
  refine cOp4_law ?_
  intro a b number hw hp
  unfold cOp4_0
  exact ⟨hp, rfl, trivial⟩
abbrev cOp5 : Con := { A := (.cons .int (.cons .int (.cons .int .nil))), R := (.cons .int .nil), pre := fun x => True, F := fun x => (min x.1 x.2.1, ()) }
def cOp5_0  (a : Int) (b : Int) (number : Int) (y0 : Int) : Prop :=
  (min a b) = y0 ∧ True
theorem cOp5_law (h : ∀ (a : Int) (b : Int) (number : Int), cOp5.A.wf (a, b, number, ()) → cOp5_0  a b number (min a b)) : ConOK Go.Proofs.Try.prog 165 cOp5 := by
  refine lawL (Γ := []) (Θ := Th) (n := 10) [] trivial (by kernel_rfl) th_ok mix_ok Go.Proofs.Try.func165 (by kernel_rfl) ?_
  intro x hw hp Λ hC
  have h0 := h x.1 x.2.1 x.2.2.1 hw  
  exact Eq.mpr (by kernel_rfl) h0
theorem cOp5_ok : ConOK Go.Proofs.Try.prog 165 cOp5 := by
  refine cOp5_law ?_
  intro a b number hw
  unfold cOp5_0
  exact ⟨rfl, trivial⟩
abbrev cOp6 : Con := { A := (.cons .int (.cons .int (.cons .int .nil))), R := (.cons .int .nil), pre := fun x => True, F := fun x => (max x.1 x.2.1, ()) }
def cOp6_0  (a : Int) (b : Int) (number : Int) (y0 : Int) : Prop :=
  (max a b) = y0 ∧ True
theorem cOp6_law (h : ∀ (a : Int) (b : Int) (number : Int), cOp6.A.wf (a, b, number, ()) → cOp6_0  a b number (max a b)) : ConOK Go.Proofs.Try.prog 166 cOp6 := by
  refine lawL (Γ := []) (Θ := Th) (n := 10) [] trivial (by kernel_rfl) th_ok mix_ok Go.Proofs.Try.func166 (by kernel_rfl) ?_
  intro x hw hp Λ hC
  have h0 := h x.1 x.2.1 x.2.2.1 hw  
  exact Eq.mpr (by kernel_rfl) h0
theorem cOp6_ok : ConOK Go.Proofs.Try.prog 166 cOp6 := by
  refine cOp6_law ?_
  intro a b number hw
  unfold cOp6_0
  exact ⟨rfl, trivial⟩
abbrev cOperations : Con := { A := .nil, R := (.cons (.arr 8 tOpn) .nil), pre := fun x => True, F := fun x => (allOps, ()) }
def cOperations_0   (y0 : (List Opn)) : Prop :=
  (List.set (List.set (List.set (List.set (List.set (List.set (List.set (List.replicate 8 tOpn.dflt) 1 (0, (fun (xx : (Int × Int × Int × Unit)) => True, fun (xx : (Int × Int × Int × Unit)) => (xx.2.2.1, ())), ())) 2 (1, (fun (xx : (Int × Int × Int × Unit)) => True, fun (xx : (Int × Int × Int × Unit)) => (xx.1, ())), ())) 3 (2, (fun (xx : (Int × Int × Int × Unit)) => inI (xx.1 + xx.2.1), fun (xx : (Int × Int × Int × Unit)) => (xx.1 + xx.2.1, ())), ())) 4 (2, (fun (xx : (Int × Int × Int × Unit)) => inI (xx.1 - xx.2.1), fun (xx : (Int × Int × Int × Unit)) => (xx.1 - xx.2.1, ())), ())) 5 (2, (fun (xx : (Int × Int × Int × Unit)) => True, fun (xx : (Int × Int × Int × Unit)) => (min xx.1 xx.2.1, ())), ())) 6 (2, (fun (xx : (Int × Int × Int × Unit)) => True, fun (xx : (Int × Int × Int × Unit)) => (max xx.1 xx.2.1, ())), ())) 7 (2, (T.fn (.cons .int (.cons .int (.cons .int .nil))) (.cons .int .nil)).dflt, ())) = y0 ∧ True
theorem cOperations_law (h : cOperations.A.wf (()) → cOperations_0   allOps) : ConOK Go.Proofs.Try.prog 135 cOperations := by
  refine lawL (Γ := [(161, cOp1), (162, cOp2), (163, cOp3), (164, cOp4), (165, cOp5), (166, cOp6)]) (Θ := Th) (n := 9) [] ⟨cOp1_ok, cOp2_ok, cOp3_ok, cOp4_ok, cOp5_ok, cOp6_ok, trivial⟩ (by kernel_rfl) th_ok mix_ok Go.Proofs.Try.func135 (by kernel_rfl) ?_
  intro x hw hp Λ hC
  have h0 := h  hw  
  exact Eq.mpr (by kernel_rfl) h0
theorem cOperations_ok : ConOK Go.Proofs.Try.prog 135 cOperations := by
  refine cOperations_law ?_
  intro hw
  unfold cOperations_0
  exact ⟨rfl, trivial⟩
abbrev cWrites1 : Con := { A := (.cons tL .nil), R := (.cons .int (.cons .bool .nil)), pre := fun x => True, F := fun x => ((if writes x.1 then x.1.2.1 else 0), writes x.1, ()) }
def cWrites1_0  (l : Lin) (y0 : Int) (y1 : Bool) : Prop :=
  True ∧ (if (within l.1 (1 : Int) (6 : Int)) = true then (l.2.1 = y0 ∧ true = y1 ∧ True) else ((0 : Int) = y0 ∧ false = y1 ∧ True))
theorem cWrites1_law (h : ∀ (l : Lin), cWrites1.A.wf (l, ()) → cWrites1_0  l (if writes l then l.2.1 else 0) (writes l)) : ConOK Go.Proofs.Try.prog 118 cWrites1 := by
  refine lawL (Γ := [(116, cWithin1)]) (Θ := Th) (n := 9) [] ⟨cWithin1_ok, trivial⟩ (by kernel_rfl) th_ok mix_ok Go.Proofs.Try.func118 (by kernel_rfl) ?_
  intro x hw hp Λ hC
  have h0 := h x.1 hw  
  exact Eq.mpr (by kernel_rfl) h0
theorem cWrites1_ok : ConOK Go.Proofs.Try.prog 118 cWrites1 := by
  refine cWrites1_law ?_
  intro l hw
  unfold cWrites1_0
  refine ⟨trivial, ?_⟩
  by_cases h : 1 ≤ l.1 ∧ l.1 ≤ 6
  · have e : writes l = true := by unfold writes; simpa using h
    rw [if_pos (within_iff.2 h), if_pos e]
    exact ⟨rfl, e.symm, trivial⟩
  · have e : writes l = false := by unfold writes; simpa using h
    rw [if_neg (fun g => h (within_iff.1 g)), if_neg (by rw [e]; simp)]
    exact ⟨rfl, e.symm, trivial⟩
abbrev cRun0 : Con := { A := (.cons (.sl tL) (.cons (.sl .int) (.cons (.fn (.cons .int .nil) (.cons .int (.cons .bool .nil))) .nil))), R := (.cons (.osl tVis) (.cons (.arr 4 .int) .nil)), pre := fun x => validP x.1 = 0 ∧ validS x.2.1 = true ∧ ∀ i', x.2.2.1.1 (i', ()), F := fun x => (visits x.1 (frcOf x.2.2.1.2) x.2.1, endS x.1 (frcOf x.2.2.1.2) x.2.1, ()) }
def cRun0_0 (Λ1 : Int → (List Int) → (List Vis) → Prop) (Λ2 : Int → (List Int) → (List Vis) → Int → Prop) (p : (List Lin)) (in_ : (List Int)) (forced : (T.fn (.cons .int .nil) (.cons .int (.cons .bool .nil))).den) (y0 : (List Vis)) (y1 : (List Int)) : Prop :=
  True ∧ (True ∧ Λ1 (0 : Int) (List.append (List.take (List.length (List.replicate 4 0)) in_) (List.drop (List.length in_) (List.replicate 4 0))) ([] : List Vis))
def cRun0_1 (Λ1 : Int → (List Int) → (List Vis) → Prop) (Λ2 : Int → (List Int) → (List Vis) → Int → Prop) (p : (List Lin)) (in_ : (List Int)) (forced : (T.fn (.cons .int .nil) (.cons .int (.cons .bool .nil))).den) (y0 : (List Vis)) (y1 : (List Int))  (i_1 : Int) (now_1 : (List Int)) (out_1 : (List Vis)) : Prop :=
  if (decide (i_1 < (List.length p : Int))) = true then (idx i_1 (List.length p : Int) ∧ (List.length out_1 + List.length [(i_1, now_1, ())] ≤ 4294967296 ∧ (if ((List.getD p (Int.toNat i_1) tL.dflt).1 == (7 : Int)) = true then (idx ((List.getD p (Int.toNat i_1) tL.dflt).2.2.1) (4 : Int) ∧ (idx ((List.getD p (Int.toNat i_1) tL.dflt).2.2.2.1) (4 : Int) ∧ (if (decide ((List.getD now_1 (Int.toNat ((List.getD p (Int.toNat i_1) tL.dflt).2.2.1)) 0) < (List.getD now_1 (Int.toNat ((List.getD p (Int.toNat i_1) tL.dflt).2.2.2.1)) 0))) = true then (inI (i_1 + (List.getD p (Int.toNat i_1) tL.dflt).2.1) ∧ (inI ((i_1 + (List.getD p (Int.toNat i_1) tL.dflt).2.1) + (1 : Int)) ∧ Λ1 ((i_1 + (List.getD p (Int.toNat i_1) tL.dflt).2.1) + (1 : Int)) now_1 (out_1 ++ [(i_1, now_1, ())]))) else (inI (i_1 + (1 : Int)) ∧ Λ1 (i_1 + (1 : Int)) now_1 (out_1 ++ [(i_1, now_1, ())]))))) else (True ∧ (if (!(writes (List.getD p (Int.toNat i_1) tL.dflt))) = true then (inI (i_1 + (1 : Int)) ∧ Λ1 (i_1 + (1 : Int)) now_1 (out_1 ++ [(i_1, now_1, ())])) else (forced.1 (i_1, ()) ∧ (if (!((forced.2 (i_1, ())).2.1)) = true then (idx ((List.getD p (Int.toNat i_1) tL.dflt).1) (8 : Int) ∧ (if (decide ((List.getD allOps (Int.toNat ((List.getD p (Int.toNat i_1) tL.dflt).1)) tOpn.dflt).1 > (0 : Int))) = true then (idx ((List.getD p (Int.toNat i_1) tL.dflt).2.2.1) (4 : Int) ∧ Λ2 i_1 now_1 out_1 (List.getD now_1 (Int.toNat ((List.getD p (Int.toNat i_1) tL.dflt).2.2.1)) 0)) else Λ2 i_1 now_1 out_1 (0 : Int))) else (idx ((if writes (List.getD p (Int.toNat i_1) tL.dflt) then (List.getD p (Int.toNat i_1) tL.dflt).2.1 else 0)) (4 : Int) ∧ (inI (i_1 + (1 : Int)) ∧ Λ1 (i_1 + (1 : Int)) (List.set now_1 (Int.toNat ((if writes (List.getD p (Int.toNat i_1) tL.dflt) then (List.getD p (Int.toNat i_1) tL.dflt).2.1 else 0))) (max (-999 : Int) (min (999 : Int) ((forced.2 (i_1, ())).1)))) (out_1 ++ [(i_1, now_1, ())])))))))))) else (now_1 = y1 ∧ out_1 = y0)
def cRun0_2 (Λ1 : Int → (List Int) → (List Vis) → Prop) (Λ2 : Int → (List Int) → (List Vis) → Int → Prop) (p : (List Lin)) (in_ : (List Int)) (forced : (T.fn (.cons .int .nil) (.cons .int (.cons .bool .nil))).den) (y0 : (List Vis)) (y1 : (List Int)) (i_1 : Int) (now_1 : (List Int)) (out_1 : (List Vis)) (a_2 : Int) : Prop :=
  idx ((List.getD p (Int.toNat i_1) tL.dflt).1) (8 : Int) ∧ (if (decide ((List.getD allOps (Int.toNat ((List.getD p (Int.toNat i_1) tL.dflt).1)) tOpn.dflt).1 > (1 : Int))) = true then (idx ((List.getD p (Int.toNat i_1) tL.dflt).2.2.2.1) (4 : Int) ∧ (idx ((List.getD p (Int.toNat i_1) tL.dflt).1) (8 : Int) ∧ (((List.getD allOps (Int.toNat ((List.getD p (Int.toNat i_1) tL.dflt).1)) tOpn.dflt).2.1).1 (a_2, (List.getD now_1 (Int.toNat ((List.getD p (Int.toNat i_1) tL.dflt).2.2.2.1)) 0), (List.getD p (Int.toNat i_1) tL.dflt).2.2.1, ()) ∧ (idx ((if writes (List.getD p (Int.toNat i_1) tL.dflt) then (List.getD p (Int.toNat i_1) tL.dflt).2.1 else 0)) (4 : Int) ∧ (inI (i_1 + (1 : Int)) ∧ Λ1 (i_1 + (1 : Int)) (List.set now_1 (Int.toNat ((if writes (List.getD p (Int.toNat i_1) tL.dflt) then (List.getD p (Int.toNat i_1) tL.dflt).2.1 else 0))) (max (-999 : Int) (min (999 : Int) ((((List.getD allOps (Int.toNat ((List.getD p (Int.toNat i_1) tL.dflt).1)) tOpn.dflt).2.1).2 (a_2, (List.getD now_1 (Int.toNat ((List.getD p (Int.toNat i_1) tL.dflt).2.2.2.1)) 0), (List.getD p (Int.toNat i_1) tL.dflt).2.2.1, ())).1)))) (out_1 ++ [(i_1, now_1, ())])))))) else (idx ((List.getD p (Int.toNat i_1) tL.dflt).1) (8 : Int) ∧ (((List.getD allOps (Int.toNat ((List.getD p (Int.toNat i_1) tL.dflt).1)) tOpn.dflt).2.1).1 (a_2, 0, (List.getD p (Int.toNat i_1) tL.dflt).2.2.1, ()) ∧ (idx ((if writes (List.getD p (Int.toNat i_1) tL.dflt) then (List.getD p (Int.toNat i_1) tL.dflt).2.1 else 0)) (4 : Int) ∧ (inI (i_1 + (1 : Int)) ∧ Λ1 (i_1 + (1 : Int)) (List.set now_1 (Int.toNat ((if writes (List.getD p (Int.toNat i_1) tL.dflt) then (List.getD p (Int.toNat i_1) tL.dflt).2.1 else 0))) (max (-999 : Int) (min (999 : Int) ((((List.getD allOps (Int.toNat ((List.getD p (Int.toNat i_1) tL.dflt).1)) tOpn.dflt).2.1).2 (a_2, 0, (List.getD p (Int.toNat i_1) tL.dflt).2.2.1, ())).1)))) (out_1 ++ [(i_1, now_1, ())]))))))
theorem cRun0_law (h : ∀ (p : (List Lin)) (in_ : (List Int)) (forced : (T.fn (.cons .int .nil) (.cons .int (.cons .bool .nil))).den), cRun0.A.wf (p, in_, forced, ()) → (validP p = 0 ∧ validS in_ = true ∧ ∀ i', forced.1 (i', ())) → ∀ (Λ1 : Int → (List Int) → (List Vis) → Prop) (Λ2 : Int → (List Int) → (List Vis) → Int → Prop), (∀ (i_1 : Int) (now_1 : (List Int)) (out_1 : (List Vis)), cRun0_1 Λ1 Λ2 p in_ forced (visits p (frcOf forced.2) in_) (endS p (frcOf forced.2) in_) i_1 now_1 out_1 → Λ1 i_1 now_1 out_1) → (∀ (i_1 : Int) (now_1 : (List Int)) (out_1 : (List Vis)) (a_2 : Int), cRun0_2 Λ1 Λ2 p in_ forced (visits p (frcOf forced.2) in_) (endS p (frcOf forced.2) in_) i_1 now_1 out_1 a_2 → Λ2 i_1 now_1 out_1 a_2) → cRun0_0 Λ1 Λ2 p in_ forced (visits p (frcOf forced.2) in_) (endS p (frcOf forced.2) in_)) : ConOK Go.Proofs.Try.prog 85 cRun0 := by
  refine lawL (Γ := [(135, cOperations), (118, cWrites1)]) (Θ := Th) (n := 107) [([1, 1, 1, 1, 1, 0, 1, 0], ⟨[(0, false), (2, false), (7, true), (8, true), (9, true), (10, true), (11, true)], [(7, true), (8, true), (9, true), (10, true)]⟩), ([1, 1, 1, 1, 1, 0, 1, 0, 0, 1, 0, 0, 1, 1, 1, 1, 1, 1, 0, 1, 0, 1, 2], ⟨[(0, false), (2, false), (7, true), (8, true), (9, true), (10, true), (11, true), (12, true), (13, true), (17, true), (18, true)], [(7, true), (8, true), (9, true), (10, true), (12, true)]⟩)] ⟨cOperations_ok, cWrites1_ok, trivial⟩ (by kernel_rfl) th_ok mix_ok Go.Proofs.Try.func85 (by kernel_rfl) ?_
  intro x hw hp Λ hC
  have h0 := h x.1 x.2.1 x.2.2.1 hw hp (fun i_1 now_1 out_1 => Λ [1, 1, 1, 1, 1, 0, 1, 0] ([(0, .d false (.sl tL) x.1), (2, .d false (.fn (.cons .int .nil) (.cons .int (.cons .bool .nil))) x.2.2.1), (7, .ptr 7 0 []), (8, .ptr 8 0 []), (9, .ptr 9 0 []), (10, .own 10 0), (11, .d true .int i_1)], [(7, .box true (.arr 4 .int) (List.replicate 4 0)), (8, .box true (.arr 4 .int) now_1), (9, .box true (.arr 8 tOpn) allOps), (10, .sl true tVis out_1)])) (fun i_1 now_1 out_1 a_2 => Λ [1, 1, 1, 1, 1, 0, 1, 0, 0, 1, 0, 0, 1, 1, 1, 1, 1, 1, 0, 1, 0, 1, 2] ([(0, .d false (.sl tL) x.1), (2, .d false (.fn (.cons .int .nil) (.cons .int (.cons .bool .nil))) x.2.2.1), (7, .ptr 7 0 []), (8, .ptr 8 0 []), (9, .ptr 9 0 []), (10, .own 10 0), (11, .d true .int i_1), (12, .ptr 12 0 []), (13, .d true .int ((if writes (List.getD x.1 (Int.toNat i_1) tL.dflt) then (List.getD x.1 (Int.toNat i_1) tL.dflt).2.1 else 0))), (17, .d true .int a_2), (18, .d true .int 0)], [(7, .box true (.arr 4 .int) (List.replicate 4 0)), (8, .box true (.arr 4 .int) now_1), (9, .box true (.arr 8 tOpn) allOps), (10, .sl true tVis (out_1 ++ [(i_1, now_1, ())])), (12, .box true tL (List.getD x.1 (Int.toNat i_1) tL.dflt))])) (fun i_1 now_1 out_1 hb => hC [1, 1, 1, 1, 1, 0, 1, 0] ([(0, .d false (.sl tL) x.1), (2, .d false (.fn (.cons .int .nil) (.cons .int (.cons .bool .nil))) x.2.2.1), (7, .ptr 7 0 []), (8, .ptr 8 0 []), (9, .ptr 9 0 []), (10, .own 10 0), (11, .d true .int i_1)], [(7, .box true (.arr 4 .int) (List.replicate 4 0)), (8, .box true (.arr 4 .int) now_1), (9, .box true (.arr 8 tOpn) allOps), (10, .sl true tVis out_1)]) (Eq.mpr (by kernel_rfl) hb)) (fun i_1 now_1 out_1 a_2 hb => hC [1, 1, 1, 1, 1, 0, 1, 0, 0, 1, 0, 0, 1, 1, 1, 1, 1, 1, 0, 1, 0, 1, 2] ([(0, .d false (.sl tL) x.1), (2, .d false (.fn (.cons .int .nil) (.cons .int (.cons .bool .nil))) x.2.2.1), (7, .ptr 7 0 []), (8, .ptr 8 0 []), (9, .ptr 9 0 []), (10, .own 10 0), (11, .d true .int i_1), (12, .ptr 12 0 []), (13, .d true .int ((if writes (List.getD x.1 (Int.toNat i_1) tL.dflt) then (List.getD x.1 (Int.toNat i_1) tL.dflt).2.1 else 0))), (17, .d true .int a_2), (18, .d true .int 0)], [(7, .box true (.arr 4 .int) (List.replicate 4 0)), (8, .box true (.arr 4 .int) now_1), (9, .box true (.arr 8 tOpn) allOps), (10, .sl true tVis (out_1 ++ [(i_1, now_1, ())])), (12, .box true tL (List.getD x.1 (Int.toNat i_1) tL.dflt))]) (Eq.mpr (by kernel_rfl) hb))
  exact Eq.mpr (by kernel_rfl) h0
theorem cRun0_ok : ConOK Go.Proofs.Try.prog 85 cRun0 := by
  refine cRun0_law ?_
  intro p in_ forced hw hp Λ1 Λ2 h1 h2
  unfold cRun0_0
  obtain ⟨p1, p2, p3⟩ := hp
  obtain ⟨h8, hall⟩ := validP_ok p1
  have l4 := validS_len p2
  have key : ∀ (f i : Nat) (s : List Int) (out : List Vst), validS s = true → p.length < i + f → out.length ≤ i → visits p (frcOf forced.2) in_ = out ++ (runF p (frcOf forced.2) f i s).1 → endS p (frcOf forced.2) in_ = (runF p (frcOf forced.2) f i s).2 → Λ1 (i : Int) s out := by
    intro f
    induction f with
    | zero =>
      intro i s out hs hf ho e1 e2
      apply h1; unfold cRun0_1; rw [if_neg (by simp; omega)]
      exact ⟨e2.symm, by rw [e1]; simp [runF]⟩
    | succ f ih =>
      intro i s out hs hf ho e1 e2
      rw [runF] at e1 e2
      by_cases hi : i < p.length
      · rw [if_pos hi] at e1 e2
        have hl := validLine_at hall hi
        have hgt := stepTo_gt (List.getD p i tL.dflt) i s
        have nx := ih (stepTo (List.getD p i tL.dflt) i s) (stepS (frcOf forced.2) (List.getD p i tL.dflt) i s) (out ++ [((i : Int), s, ())]) (stepS_ok _ _ i hs) (by omega) (by rw [List.length_append]; simp only [List.length_cons, List.length_nil]; omega) (by rw [e1]; simp) e2
        have l4s := validS_len hs
        have J : ∀ a2, writes (List.getD p i tL.dflt) = true → (forced.2 ((i : Int), ())).2.1 = false → a2 = (if (List.getD p i tL.dflt).1 = 1 then 0 else Rg s (List.getD p i tL.dflt).2.2.1) → Λ2 i s out a2 := by
          intro a2 hw hfr ha
          have efr : frcOf forced.2 (i : Int) = none := by unfold frcOf; rw [if_neg (by rw [hfr]; simp)]
          apply h2; unfold cRun0_2; rw [Int.toNat_natCast]
          unfold stepS stepTo wnum at nx
          rw [efr] at nx
          generalize List.getD p i tL.dflt = l at *
          have hr := line_regs hl
          have hw2 : 1 ≤ l.1 ∧ l.1 ≤ 6 := by unfold writes at hw; simpa using hw
          rw [if_neg (by rintro ⟨h, _⟩; omega), if_pos hw] at nx
          have it := hr.2.2.1 hw2
          rw [if_pos hw]
          obtain ⟨op, t, x, y, ⟨⟩⟩ := l
          have I8 : idx op (8 : Int) := ⟨by dsimp only at hw2; omega, by dsimp only at hw2; omega⟩
          have I4 : idx t (4 : Int) := ⟨by dsimp only at it; omega, by dsimp only at it; omega⟩
          have hn : inI ((i : Int) + 1) := inI_succ hi (by omega)
          have c : op = 1 ∨ op = 2 ∨ op = 3 ∨ op = 4 ∨ op = 5 ∨ op = 6 := by dsimp only at hw2; omega
          rcases c with rfl | rfl | rfl | rfl | rfl | rfl
          · exact ⟨I8, I8, trivial, I4, hn, nx⟩
          · rw [if_neg (by simp)] at ha
            subst ha
            exact ⟨I8, I8, trivial, I4, hn, nx⟩
          all_goals
            rw [if_neg (by simp)] at ha
            subst ha
            have iy := hr.2.1 (by dsimp only; omega)
            dsimp only at iy
            have gx := validS_get hs x
            have gy := validS_get hs y
            have Iy : idx y (4 : Int) := ⟨iy.1, by omega⟩
            first
              | exact ⟨I8, Iy, I8, trivial, I4, hn, nx⟩
              | exact ⟨I8, Iy, I8, (by show inI (Rg s x + Rg s y); unfold inI; omega), I4, hn, nx⟩
              | exact ⟨I8, Iy, I8, (by show inI (Rg s x - Rg s y); unfold inI; omega), I4, hn, nx⟩
        apply h1; unfold cRun0_1; rw [if_pos (by simpa using hi), Int.toNat_natCast]
        have hr := line_regs hl
        have hn : inI ((i : Int) + 1) := inI_succ hi (by omega)
        refine ⟨idx_nat hi, by simp only [List.length_cons, List.length_nil]; omega, ?_⟩
        unfold stepS stepTo wnum at nx
        generalize List.getD p i tL.dflt = l at *
        by_cases h7 : l.1 = 7
        · rw [if_pos (by simpa using h7)]
          have ix := hr.1 (by omega)
          have iy := hr.2.1 (by omega)
          have it := hr.2.2.2.1 h7
          have hw : writes l = false := by unfold writes; simp only [decide_eq_false_iff_not]; omega
          rw [if_neg (show ¬ writes l = true by rw [hw]; simp)] at nx
          refine ⟨⟨ix.1, by omega⟩, ⟨iy.1, by omega⟩, ?_⟩
          by_cases hc : Rg s l.2.2.1 < Rg s l.2.2.2.1
          · rw [if_pos ⟨h7, hc⟩] at nx
            rw [if_pos (by unfold Rg at hc; simpa using hc)]
            refine ⟨by unfold inI; omega, by unfold inI; omega, ?_⟩
            rw [show ((i : Int) + l.2.1 + 1) = ((i + 1 + l.2.1.toNat : Nat) : Int) by omega]
            exact nx
          · rw [if_neg (by rintro ⟨_, h⟩; exact hc h)] at nx
            rw [if_neg (by unfold Rg at hc; simpa using hc)]
            exact ⟨hn, nx⟩
        · rw [if_neg (by simpa using h7)]
          rw [if_neg (by rintro ⟨h, _⟩; exact h7 h)] at nx
          refine ⟨trivial, ?_⟩
          cases hw : writes l
          · rw [hw] at nx
            rw [if_pos (by rfl)]
            exact ⟨hn, nx⟩
          · rw [if_neg (by simp)]
            have hw2 : 1 ≤ l.1 ∧ l.1 ≤ 6 := by unfold writes at hw; simpa using hw
            have it := hr.2.2.1 hw2
            refine ⟨p3 _, ?_⟩
            cases hfr : (forced.2 ((i : Int), ())).2.1
            · rw [if_pos (by rfl)]
              refine ⟨⟨by omega, by omega⟩, ?_⟩
              have J' := fun a2 => J a2 hw hfr
              obtain ⟨op, t, x, y, ⟨⟩⟩ := l
              have c : op = 1 ∨ op = 2 ∨ op = 3 ∨ op = 4 ∨ op = 5 ∨ op = 6 := by dsimp only at hw2; omega
              rcases c with rfl | rfl | rfl | rfl | rfl | rfl
              · exact J' 0 rfl
              all_goals
                have ix := hr.1 (by dsimp only; omega)
                dsimp only at ix
                exact ⟨⟨ix.1, by dsimp only; omega⟩, J' _ rfl⟩
            · rw [if_neg (by simp)]
              have efr : frcOf forced.2 (i : Int) = some (forced.2 ((i : Int), ())).1 := by unfold frcOf; rw [if_pos hfr]
              rw [efr, if_pos hw] at nx
              simp only [eq_self, if_true]
              exact ⟨⟨it.1, by omega⟩, hn, nx⟩
      · rw [if_neg hi] at e1 e2
        apply h1; unfold cRun0_1; rw [if_neg (by simpa using hi)]
        exact ⟨e2.symm, by rw [e1]; simp⟩
  refine ⟨trivial, trivial, ?_⟩
  show Λ1 0 (List.take 4 in_ ++ List.drop in_.length (List.replicate 4 0)) []
  rw [List.take_of_length_le (by omega), List.drop_of_length_le (by rw [List.length_replicate]; omega), List.append_nil]
  exact key (p.length + 1) 0 in_ [] p2 (by omega) (Nat.zero_le _) rfl rfl
abbrev cFree : Con := { A := (.cons .int .nil), R := (.cons .int (.cons .bool .nil)), pre := fun x => True, F := fun x => (0, false, ()) }
def cFree_0  (a0 : Int) (y0 : Int) (y1 : Bool) : Prop :=
  (0 : Int) = y0 ∧ false = y1 ∧ True
theorem cFree_law (h : ∀ (a0 : Int), cFree.A.wf (a0, ()) → cFree_0  a0 0 false) : ConOK Go.Proofs.Try.prog 86 cFree := by
  refine lawL (Γ := []) (Θ := Th) (n := 4) [] trivial (by kernel_rfl) th_ok mix_ok Go.Proofs.Try.func86 (by kernel_rfl) ?_
  intro x hw hp Λ hC
  have h0 := h x.1 hw  
  exact Eq.mpr (by kernel_rfl) h0
theorem cFree_ok : ConOK Go.Proofs.Try.prog 86 cFree := by
  refine cFree_law ?_
  intro a0 hw
  unfold cFree_0
  exact ⟨rfl, rfl, trivial⟩
theorem frc_free : frcOf (fun (x : (Int × Unit)) => (0, false, ())) = noFrc := rfl

abbrev cRun : Con := { A := (.cons (.sl tL) (.cons (.sl .int) .nil)), R := (.cons (.osl .int) (.cons .int .nil)), pre := fun x => True, F := fun x => ((if err1 x.1 x.2.1 = 0 then runS x.1 x.2.1 else []), err1 x.1 x.2.1, ()) }
def cRun_0  (p : (List Lin)) (in_ : (List Int)) (y0 : (List Int)) (y1 : Int) : Prop :=
  True ∧ (if (((if validP p = 0 then argErr (validS in_) else validP p)) != (0 : Int)) = true then (((if validP p = 0 then argErr (validS in_) else validP p)) = y1 ∧ ([] : List Int) = y0) else ((validP p = 0 ∧ validS in_ = true ∧ ∀ i', (fun (xx : (Int × Unit)) => True, fun (xx : (Int × Unit)) => (0, false, ())).1 (i', ())) ∧ (True ∧ ((0 : Int) = y1 ∧ (endS p (frcOf (fun (xx : (Int × Unit)) => True, fun (xx : (Int × Unit)) => (0, false, ())).2) in_) = y0))))
theorem cRun_law (h : ∀ (p : (List Lin)) (in_ : (List Int)), cRun.A.wf (p, in_, ()) → cRun_0  p in_ (if err1 p in_ = 0 then runS p in_ else []) (err1 p in_)) : ConOK Go.Proofs.Try.prog 26 cRun := by
  refine lawL (Γ := [(84, cCheck1), (86, cFree), (85, cRun0)]) (Θ := Th) (n := 22) [] ⟨cCheck1_ok, cFree_ok, cRun0_ok, trivial⟩ (by kernel_rfl) th_ok mix_ok Go.Proofs.Try.func26 (by kernel_rfl) ?_
  intro x hw hp Λ hC
  have h0 := h x.1 x.2.1 hw  
  exact Eq.mpr (by kernel_rfl) h0
theorem cRun_ok : ConOK Go.Proofs.Try.prog 26 cRun := by
  refine cRun_law ?_
  intro p in_ hw
  unfold cRun_0
  refine ⟨trivial, ?_⟩
  show if (err1 p in_ != 0) = true then _ else _
  by_cases h : err1 p in_ = 0
  · rw [if_neg (by simp [h]), if_pos h, h]
    have := err1_ok h
    exact ⟨⟨this.1, this.2, fun _ => trivial⟩, trivial, rfl, rfl⟩
  · rw [if_pos (by simpa using h), if_neg h]
    exact ⟨rfl, rfl⟩
abbrev cDone : Con := { A := (.cons (.sl tL) (.cons (.sl .int) .nil)), R := (.cons (.sl .int) (.cons .int .nil)), pre := fun x => True, F := fun x => ((if err1 x.1 x.2.1 = 0 then doneS x.1 x.2.1 else []), err1 x.1 x.2.1, ()) }
def cDone_0 (Λ1 : Int → (List Int) → Prop) (p : (List Lin)) (in_ : (List Int)) (y0 : (List Int)) (y1 : Int) : Prop :=
  True ∧ (if (((if validP p = 0 then argErr (validS in_) else validP p)) != (0 : Int)) = true then (([] : List Int) = y0 ∧ ((if validP p = 0 then argErr (validS in_) else validP p)) = y1 ∧ True) else ((validP p = 0 ∧ validS in_ = true ∧ ∀ i', (fun (xx : (Int × Unit)) => True, fun (xx : (Int × Unit)) => (0, false, ())).1 (i', ())) ∧ Λ1 (0 : Int) ([] : List Int)))
def cDone_1 (Λ1 : Int → (List Int) → Prop) (p : (List Lin)) (in_ : (List Int)) (y0 : (List Int)) (y1 : Int)  (t26_1 : Int) (out_1 : (List Int)) : Prop :=
  if (decide (t26_1 < (List.length (visits p (frcOf (fun (xx : (Int × Unit)) => True, fun (xx : (Int × Unit)) => (0, false, ())).2) in_) : Int))) = true then (idx t26_1 (List.length (visits p (frcOf (fun (xx : (Int × Unit)) => True, fun (xx : (Int × Unit)) => (0, false, ())).2) in_) : Int) ∧ (List.length out_1 + List.length [(List.getD (visits p (frcOf (fun (xx : (Int × Unit)) => True, fun (xx : (Int × Unit)) => (0, false, ())).2) in_) (Int.toNat t26_1) tVis.dflt).1] ≤ 4294967296 ∧ (inI (t26_1 + (1 : Int)) ∧ Λ1 (t26_1 + (1 : Int)) (out_1 ++ [(List.getD (visits p (frcOf (fun (xx : (Int × Unit)) => True, fun (xx : (Int × Unit)) => (0, false, ())).2) in_) (Int.toNat t26_1) tVis.dflt).1])))) else (out_1 = y0 ∧ (0 : Int) = y1 ∧ True)
theorem cDone_law (h : ∀ (p : (List Lin)) (in_ : (List Int)), cDone.A.wf (p, in_, ()) → ∀ (Λ1 : Int → (List Int) → Prop), (∀ (t26_1 : Int) (out_1 : (List Int)), cDone_1 Λ1 p in_ (if err1 p in_ = 0 then doneS p in_ else []) (err1 p in_) t26_1 out_1 → Λ1 t26_1 out_1) → cDone_0 Λ1 p in_ (if err1 p in_ = 0 then doneS p in_ else []) (err1 p in_)) : ConOK Go.Proofs.Try.prog 51 cDone := by
  refine lawL (Γ := [(84, cCheck1), (86, cFree), (85, cRun0)]) (Θ := Th) (n := 37) [([1, 1, 1, 1, 0, 1, 0], ⟨[(9, true), (24, true), (25, true), (26, true)], [(9, true), (21, true)]⟩)] ⟨cCheck1_ok, cFree_ok, cRun0_ok, trivial⟩ (by kernel_rfl) th_ok mix_ok Go.Proofs.Try.func51 (by kernel_rfl) ?_
  intro x hw hp Λ hC
  have h0 := h x.1 x.2.1 hw (fun t26_1 out_1 => Λ [1, 1, 1, 1, 0, 1, 0] ([(9, .own 9 0), (24, .own 21 0), (25, .d true .int (List.length (visits x.1 (frcOf (fun (xx : (Int × Unit)) => True, fun (xx : (Int × Unit)) => (0, false, ())).2) x.2.1) : Int)), (26, .d true .int t26_1)], [(9, .sl true .int out_1), (21, .sl true tVis (visits x.1 (frcOf (fun (xx : (Int × Unit)) => True, fun (xx : (Int × Unit)) => (0, false, ())).2) x.2.1))])) (fun t26_1 out_1 hb => hC [1, 1, 1, 1, 0, 1, 0] ([(9, .own 9 0), (24, .own 21 0), (25, .d true .int (List.length (visits x.1 (frcOf (fun (xx : (Int × Unit)) => True, fun (xx : (Int × Unit)) => (0, false, ())).2) x.2.1) : Int)), (26, .d true .int t26_1)], [(9, .sl true .int out_1), (21, .sl true tVis (visits x.1 (frcOf (fun (xx : (Int × Unit)) => True, fun (xx : (Int × Unit)) => (0, false, ())).2) x.2.1))]) (Eq.mpr (by kernel_rfl) hb))
  exact Eq.mpr (by kernel_rfl) h0
theorem cDone_ok : ConOK Go.Proofs.Try.prog 51 cDone := by
  refine cDone_law ?_
  intro p in_ hw Λ1 h1
  unfold cDone_0
  refine ⟨trivial, ?_⟩
  show if (err1 p in_ != 0) = true then _ else _
  by_cases h : err1 p in_ = 0
  · rw [if_neg (by simp [h])]
    have g := err1_ok h
    refine ⟨⟨g.1, g.2, fun _ => trivial⟩, ?_⟩
    have h8 := (validP_ok g.1).1
    have hl := visits_len p noFrc in_
    refine upto (n := (visits p noFrc in_).length) (Q := fun i => Λ1 (i : Int) ((doneS p in_).take i)) ?_ ?_ 0 (Nat.zero_le _)
    · apply h1; unfold cDone_1
      show if (decide (((visits p noFrc in_).length : Int) < ((visits p noFrc in_).length : Int))) = true then _ else _
      rw [if_neg (by simp), if_pos h, List.take_of_length_le (by unfold doneS; simp)]
      exact ⟨rfl, h.symm, trivial⟩
    · intro i hi ih
      apply h1; unfold cDone_1
      show if (decide ((i : Int) < ((visits p noFrc in_).length : Int))) = true then _ else _
      rw [if_pos (by simpa using hi), Int.toNat_natCast]
      refine ⟨idx_nat hi, ?_, inI_succ hi (by omega), ?_⟩
      · simp only [doneS, List.length_take, List.length_map, List.length_cons, List.length_nil]; omega
      · rw [take_snoc 0 (by unfold doneS; simpa using hi)] at ih
        have e : (doneS p in_).getD i 0 = (List.getD (visits p noFrc in_) i tVis.dflt).1 := by unfold doneS; simp [List.getD_eq_getElem?_getD, hi]
        rw [e] at ih
        exact ih
  · rw [if_pos (by simpa using h), if_neg h]
    exact ⟨rfl, rfl, trivial⟩
end Go.Tk
set_option linter.unusedSimpArgs false
set_option linter.unusedVariables false
namespace Go.Tk
open Go Go.RowKit

theorem writes_eq {l : Lin} (h : validLine l = true) : (!(l.1 == 0) && !(l.1 == 7)) = writes l := by
  have hr := line_regs h
  unfold writes
  rw [Bool.eq_iff_iff]
  simp only [Bool.and_eq_true, Bool.not_eq_true', beq_eq_false_iff_ne, decide_eq_true_eq]
  omega

abbrev cSameIntsR : Con := { A := (.cons (.sl .int) (.cons (.sl .int) .nil)), R := (.cons .bool .nil), pre := fun x => x.1.length ≤ 1000000, F := fun x => (decide (x.1 = x.2.1), ()) }
def cSameIntsR_0 (Λ1 : Int → Prop) (a : (List Int)) (b : (List Int)) (y0 : Bool) : Prop :=
  if ((List.length a : Int) != (List.length b : Int)) = true then (false = y0 ∧ True) else Λ1 (0 : Int)
def cSameIntsR_1 (Λ1 : Int → Prop) (a : (List Int)) (b : (List Int)) (y0 : Bool)  (i_1 : Int) : Prop :=
  if (decide (i_1 < (List.length a : Int))) = true then (idx i_1 (List.length a : Int) ∧ (idx i_1 (List.length b : Int) ∧ (if ((List.getD a (Int.toNat i_1) 0) != (List.getD b (Int.toNat i_1) 0)) = true then (false = y0 ∧ True) else (inI (i_1 + (1 : Int)) ∧ Λ1 (i_1 + (1 : Int)))))) else (true = y0 ∧ True)
theorem cSameIntsR_law (h : ∀ (a : (List Int)) (b : (List Int)), cSameIntsR.A.wf (a, b, ()) → (a.length ≤ 1000000) → ∀ (Λ1 : Int → Prop), (∀ (i_1 : Int), cSameIntsR_1 Λ1 a b (decide (a = b)) i_1 → Λ1 i_1) → cSameIntsR_0 Λ1 a b (decide (a = b))) : ConOK Go.Proofs.Try.prog 8 cSameIntsR := by
  refine lawL (Γ := []) (Θ := Th) (n := 26) [([1, 1, 0, 1, 0], ⟨[(0, false), (1, false), (5, true)], []⟩)] trivial (by kernel_rfl) th_ok mix_ok Go.Proofs.Try.func8 (by kernel_rfl) ?_
  intro x hw hp Λ hC
  have h0 := h x.1 x.2.1 hw hp (fun i_1 => Λ [1, 1, 0, 1, 0] ([(0, .d false (.sl .int) x.1), (1, .d false (.sl .int) x.2.1), (5, .d true .int i_1)], [])) (fun i_1 hb => hC [1, 1, 0, 1, 0] ([(0, .d false (.sl .int) x.1), (1, .d false (.sl .int) x.2.1), (5, .d true .int i_1)], []) (Eq.mpr (by kernel_rfl) hb))
  exact Eq.mpr (by kernel_rfl) h0
theorem cSameIntsR_ok : ConOK Go.Proofs.Try.prog 8 cSameIntsR := by
  refine cSameIntsR_law ?_
  intro a b hw hp Λ1 h1
  unfold cSameIntsR_0
  by_cases hl : a.length = b.length
  · rw [if_neg (by simp [hl])]
    refine upto (n := a.length) (Q := fun i => a.take i = b.take i → Λ1 i) ?_ ?_ 0 (Nat.zero_le _) rfl
    · intro ha
      rw [List.take_length, List.take_of_length_le (by omega)] at ha
      apply h1; unfold cSameIntsR_1; rw [if_neg (by simp)]
      exact ⟨by simp [ha], trivial⟩
    · intro i hi ih ha
      apply h1; unfold cSameIntsR_1; rw [if_pos (by simpa using hi), Int.toNat_natCast]
      refine ⟨idx_nat hi, idx_nat (by omega), ?_⟩
      by_cases hv : List.getD a i 0 = List.getD b i 0
      · rw [if_neg (by rw [hv]; simp)]
        exact ⟨inI_succ hi (by omega), ih (take_eq_next 0 hi hl ha hv)⟩
      · rw [if_pos (by simpa using hv)]
        exact ⟨by simp [ne_at 0 hv], trivial⟩
  · rw [if_pos (by simp; omega)]
    exact ⟨by simp; exact fun e => hl (by rw [e]), trivial⟩
end Go.Tk
/- Plain facts: tests and contracts (layer 2). No program in sight. -/
set_option linter.unusedSimpArgs false
set_option linter.unusedVariables false
namespace Go.Tk
open Go Go.RowKit

def lowHigh (c : Ctr) : Bool := (List.zipWith (fun l h => decide (l ≤ h)) c.1 c.2.1).all id
/-- The number of states of the first i registers. -/
def prodTo (l h : List Int) : Nat → Int
  | 0 => 1
  | i + 1 => prodTo l h i * (h.getD i 0 - l.getD i 0 + 1)
def sizeC (c : Ctr) : Int := prodTo c.1 c.2.1 4
def isCtr (c : Ctr) : Bool := validS c.1 && validS c.2.1 && isReg c.2.2.1 && isVal c.2.2.2.1 && isVal c.2.2.2.2.1 && decide (c.2.2.2.1 ≤ c.2.2.2.2.1) && lowHigh c
def validC (c : Ctr) : Int := if isCtr c = true then (if sizeC c > 400 then 3 else 0) else 1
/-- What is known of the box of a contract. -/
def boxC (c : Ctr) : Prop := validS c.1 = true ∧ validS c.2.1 = true ∧ lowHigh c = true

theorem zipAll_next' {α β : Type} (g : α → β → Bool) {a : List α} {b : List β} {i : Nat} (da : α) (db : β) (ha : i < a.length) (hb : i < b.length) (h : ((List.zipWith g a b).take i).all id = true) (h2 : g (a.getD i da) (b.getD i db) = true) : ((List.zipWith g a b).take (i + 1)).all id = true := by
  have hl : i < (List.zipWith g a b).length := by simp; omega
  refine all_take_next true hl h ?_
  simpa [List.getD_eq_getElem?_getD, List.getElem?_zipWith, ha, hb] using h2

theorem zipAll_false' {α β : Type} (g : α → β → Bool) {a : List α} {b : List β} {i : Nat} (da : α) (db : β) (ha : i < a.length) (hb : i < b.length) (h2 : g (a.getD i da) (b.getD i db) = false) : (List.zipWith g a b).all id = false := by
  have hl : i < (List.zipWith g a b).length := by simp; omega
  refine all_false_at true hl ?_
  simpa [List.getD_eq_getElem?_getD, List.getElem?_zipWith, ha, hb] using h2

theorem boxC_wid {c : Ctr} (h : boxC c) {i : Nat} (hi : i < 4) : c.1.getD i 0 ≤ c.2.1.getD i 0 ∧ -999 ≤ c.1.getD i 0 ∧ c.1.getD i 0 ≤ 999 ∧ -999 ≤ c.2.1.getD i 0 ∧ c.2.1.getD i 0 ≤ 999 := by
  obtain ⟨h1, h2, h3⟩ := h
  have l1 := validS_len h1
  have l2 := validS_len h2
  have g1 := (validS_iff.1 h1).2 _ (mem_getD (d := 0) (show i < c.1.length by omega))
  have g2 := (validS_iff.1 h2).2 _ (mem_getD (d := 0) (show i < c.2.1.length by omega))
  refine ⟨?_, g1.1, g1.2, g2.1, g2.2⟩
  by_cases g : c.1.getD i 0 ≤ c.2.1.getD i 0
  · exact g
  · have := zipAll_false' (fun (l h : Int) => decide (l ≤ h)) (a := c.1) (b := c.2.1) (i := i) 0 0 (by omega) (by omega) (by simpa using g)
    unfold lowHigh at h3
    rw [this] at h3; cases h3

theorem mul_bd {a A b : Int} (h1 : 1 ≤ a) (h2 : a ≤ A) (h3 : 1 ≤ b) (h4 : b ≤ 1999) : 1 ≤ a * b ∧ a * b ≤ A * 1999 := by
  have e1 : a * 1 ≤ a * b := Int.mul_le_mul_of_nonneg_left h3 (by omega)
  have e2 : a * b ≤ a * 1999 := Int.mul_le_mul_of_nonneg_left h4 (by omega)
  have e3 : a * 1999 ≤ A * 1999 := Int.mul_le_mul_of_nonneg_right h2 (by omega)
  omega

theorem prodTo_bd {c : Ctr} (h : boxC c) : ∀ i, i ≤ 4 → 1 ≤ prodTo c.1 c.2.1 i ∧ prodTo c.1 c.2.1 i ≤ 1999 ^ i
  | 0, _ => by simp [prodTo]
  | i + 1, hi => by
    have ih := prodTo_bd h i (by omega)
    have g := boxC_wid h (i := i) (by omega)
    have := mul_bd ih.1 ih.2 (b := c.2.1.getD i 0 - c.1.getD i 0 + 1) (by omega) (by omega)
    unfold prodTo
    rw [Int.pow_succ]
    exact this

theorem prodTo_inI {c : Ctr} (h : boxC c) {i : Nat} (hi : i ≤ 4) : 1 ≤ prodTo c.1 c.2.1 i ∧ prodTo c.1 c.2.1 i ≤ 15968023992001 := by
  have g := prodTo_bd h i hi
  refine ⟨g.1, Int.le_trans g.2 ?_⟩
  have c : i = 0 ∨ i = 1 ∨ i = 2 ∨ i = 3 ∨ i = 4 := by omega
  rcases c with rfl | rfl | rfl | rfl | rfl <;> decide

theorem min_step {P w : Int} (hP : 1 ≤ P) (hw : 1 ≤ w) : min (min P 401 * w) 401 = min (P * w) 401 := by
  by_cases h : P ≤ 401
  · rw [show min P 401 = P by omega]
  · have e1 : P * 1 ≤ P * w := Int.mul_le_mul_of_nonneg_left hw (by omega)
    rw [show min P 401 = 401 by omega]
    omega

theorem isCtr_box {c : Ctr} (h : isCtr c = true) : boxC c ∧ (0 ≤ c.2.2.1 ∧ c.2.2.1 ≤ 3) ∧ (-999 ≤ c.2.2.2.1 ∧ c.2.2.2.1 ≤ c.2.2.2.2.1 ∧ c.2.2.2.2.1 ≤ 999) := by
  unfold isCtr at h
  simp only [Bool.and_eq_true, decide_eq_true_eq] at h
  obtain ⟨⟨⟨⟨⟨⟨h1, h2⟩, h3⟩, h4⟩, h5⟩, h6⟩, h7⟩ := h
  have := within_iff.1 h3
  have := within_iff.1 h4
  have := within_iff.1 h5
  exact ⟨⟨h1, h2, h7⟩, by omega, by omega⟩

theorem validC_ok {c : Ctr} (h : validC c = 0) : isCtr c = true ∧ sizeC c ≤ 400 := by
  unfold validC at h
  split at h
  · rename_i g
    split at h
    · cases h
    · exact ⟨g, by omega⟩
  · cases h
end Go.Tk
set_option linter.unusedSimpArgs false
set_option linter.unusedVariables false
namespace Go.Tk
open Go Go.RowKit

abbrev cWithin2 : Con := { A := (.cons .int (.cons .int (.cons .int .nil))), R := (.cons .bool .nil), pre := fun x => True, F := fun x => (within x.1 x.2.1 x.2.2.1, ()) }
def cWithin2_0  (n : Int) (lo : Int) (hi : Int) (y0 : Bool) : Prop :=
  if (decide (lo ≤ n)) = true then (True ∧ ((bif true then (decide (n ≤ hi)) else false) = y0 ∧ True)) else (false = false ∧ (false = y0 ∧ True))
theorem cWithin2_law (h : ∀ (n : Int) (lo : Int) (hi : Int), cWithin2.A.wf (n, lo, hi, ()) → cWithin2_0  n lo hi (within n lo hi)) : ConOK Go.Proofs.Try.prog 129 cWithin2 := by
  refine lawL (Γ := []) (Θ := Th) (n := 15) [] trivial (by kernel_rfl) th_ok mix_ok Go.Proofs.Try.func129 (by kernel_rfl) ?_
  intro x hw hp Λ hC
  have h0 := h x.1 x.2.1 x.2.2.1 hw  
  exact Eq.mpr (by kernel_rfl) h0
theorem cWithin2_ok : ConOK Go.Proofs.Try.prog 129 cWithin2 := by
  refine cWithin2_law ?_
  intro n lo hi hw
  unfold cWithin2_0
  unfold within
  split <;> simp_all
  omega
abbrev cIsVal2 : Con := { A := (.cons .int .nil), R := (.cons .bool .nil), pre := fun x => True, F := fun x => (isVal x.1, ()) }
def cIsVal2_0  (n : Int) (y0 : Bool) : Prop :=
  True ∧ ((within n (-999 : Int) (999 : Int)) = y0 ∧ True)
theorem cIsVal2_law (h : ∀ (n : Int), cIsVal2.A.wf (n, ()) → cIsVal2_0  n (isVal n)) : ConOK Go.Proofs.Try.prog 155 cIsVal2 := by
  refine lawL (Γ := [(129, cWithin2)]) (Θ := Th) (n := 5) [] ⟨cWithin2_ok, trivial⟩ (by kernel_rfl) th_ok mix_ok Go.Proofs.Try.func155 (by kernel_rfl) ?_
  intro x hw hp Λ hC
  have h0 := h x.1 hw  
  exact Eq.mpr (by kernel_rfl) h0
theorem cIsVal2_ok : ConOK Go.Proofs.Try.prog 155 cIsVal2 := by
  refine cIsVal2_law ?_
  intro n hw
  unfold cIsVal2_0
  exact ⟨trivial, rfl, trivial⟩
abbrev cIsReg2 : Con := { A := (.cons .int .nil), R := (.cons .bool .nil), pre := fun x => True, F := fun x => (isReg x.1, ()) }
def cIsReg2_0  (n : Int) (y0 : Bool) : Prop :=
  True ∧ ((within n (0 : Int) (3 : Int)) = y0 ∧ True)
theorem cIsReg2_law (h : ∀ (n : Int), cIsReg2.A.wf (n, ()) → cIsReg2_0  n (isReg n)) : ConOK Go.Proofs.Try.prog 70 cIsReg2 := by
  refine lawL (Γ := [(129, cWithin2)]) (Θ := Th) (n := 5) [] ⟨cWithin2_ok, trivial⟩ (by kernel_rfl) th_ok mix_ok Go.Proofs.Try.func70 (by kernel_rfl) ?_
  intro x hw hp Λ hC
  have h0 := h x.1 hw  
  exact Eq.mpr (by kernel_rfl) h0
theorem cIsReg2_ok : ConOK Go.Proofs.Try.prog 70 cIsReg2 := by
  refine cIsReg2_law ?_
  intro n hw
  unfold cIsReg2_0
  exact ⟨trivial, rfl, trivial⟩
abbrev cIsState : Con := { A := (.cons (.sl .int) .nil), R := (.cons .bool .nil), pre := fun x => True, F := fun x => (validS x.1, ()) }
def cIsState_0  (in_ : (List Int)) (y0 : Bool) : Prop :=
  True ∧ (((argErr (validS in_)) == (0 : Int)) = y0 ∧ True)
theorem cIsState_law (h : ∀ (in_ : (List Int)), cIsState.A.wf (in_, ()) → cIsState_0  in_ (validS in_)) : ConOK Go.Proofs.Try.prog 69 cIsState := by
  refine lawL (Γ := [(83, cValS)]) (Θ := Th) (n := 6) [] ⟨cValS_ok, trivial⟩ (by kernel_rfl) th_ok mix_ok Go.Proofs.Try.func69 (by kernel_rfl) ?_
  intro x hw hp Λ hC
  have h0 := h x.1 hw  
  exact Eq.mpr (by kernel_rfl) h0
theorem cIsState_ok : ConOK Go.Proofs.Try.prog 69 cIsState := by
  refine cIsState_law ?_
  intro in_ hw
  unfold cIsState_0
  refine ⟨trivial, ?_⟩
  cases validS in_ <;> exact ⟨rfl, trivial⟩
abbrev cSize2 : Con := { A := (.cons tCt .nil), R := (.cons .int .nil), pre := fun x => boxC x.1, F := fun x => (sizeC x.1, ()) }
def cSize2_0 (Λ1 : Int → Int → Prop) (c : Ctr) (y0 : Int) : Prop :=
  Λ1 (1 : Int) (0 : Int)
def cSize2_1 (Λ1 : Int → Int → Prop) (c : Ctr) (y0 : Int)  (n_1 : Int) (t9_1 : Int) : Prop :=
  if (decide (t9_1 < (List.length c.1 : Int))) = true then (idx t9_1 (List.length c.1 : Int) ∧ (idx t9_1 (List.length c.2.1 : Int) ∧ (inI ((List.getD c.2.1 (Int.toNat t9_1) 0) - (List.getD c.1 (Int.toNat t9_1) 0)) ∧ (inI (((List.getD c.2.1 (Int.toNat t9_1) 0) - (List.getD c.1 (Int.toNat t9_1) 0)) + (1 : Int)) ∧ (inI (n_1 * (((List.getD c.2.1 (Int.toNat t9_1) 0) - (List.getD c.1 (Int.toNat t9_1) 0)) + (1 : Int))) ∧ (inI (t9_1 + (1 : Int)) ∧ Λ1 (n_1 * (((List.getD c.2.1 (Int.toNat t9_1) 0) - (List.getD c.1 (Int.toNat t9_1) 0)) + (1 : Int))) (t9_1 + (1 : Int)))))))) else (n_1 = y0 ∧ True)
theorem cSize2_law (h : ∀ (c : Ctr), cSize2.A.wf (c, ()) → (boxC c) → ∀ (Λ1 : Int → Int → Prop), (∀ (n_1 : Int) (t9_1 : Int), cSize2_1 Λ1 c (sizeC c) n_1 t9_1 → Λ1 n_1 t9_1) → cSize2_0 Λ1 c (sizeC c)) : ConOK Go.Proofs.Try.prog 67 cSize2 := by
  refine lawL (Γ := []) (Θ := Th) (n := 26) [([1, 1, 0, 1, 0], ⟨[(1, true), (3, true), (7, false), (8, true), (9, true)], [(1, false)]⟩)] trivial (by kernel_rfl) th_ok mix_ok Go.Proofs.Try.func67 (by kernel_rfl) ?_
  intro x hw hp Λ hC
  have h0 := h x.1 hw hp (fun n_1 t9_1 => Λ [1, 1, 0, 1, 0] ([(1, .ptr 1 0 []), (3, .d true .int n_1), (7, .d false (.sl .int) x.1.1), (8, .d true .int (List.length x.1.1 : Int)), (9, .d true .int t9_1)], [(1, .box false tCt x.1)])) (fun n_1 t9_1 hb => hC [1, 1, 0, 1, 0] ([(1, .ptr 1 0 []), (3, .d true .int n_1), (7, .d false (.sl .int) x.1.1), (8, .d true .int (List.length x.1.1 : Int)), (9, .d true .int t9_1)], [(1, .box false tCt x.1)]) (Eq.mpr (by kernel_rfl) hb))
  exact Eq.mpr (by kernel_rfl) h0
theorem cSize2_ok : ConOK Go.Proofs.Try.prog 67 cSize2 := by
  refine cSize2_law ?_
  intro c hw hp Λ1 h1
  unfold cSize2_0
  have l1 := validS_len hp.1
  have l2 := validS_len hp.2.1
  refine upto (n := 4) (Q := fun i => Λ1 (prodTo c.1 c.2.1 i) i) ?_ ?_ 0 (by omega)
  · apply h1; unfold cSize2_1
    rw [if_neg (by rw [l1]; simp)]
    exact ⟨rfl, trivial⟩
  · intro i hi ih
    have g := boxC_wid hp hi
    have b := prodTo_inI hp (i := i) (by omega)
    have b2 := prodTo_inI hp (i := i + 1) (by omega)
    unfold prodTo at ih b2
    apply h1; unfold cSize2_1
    rw [if_pos (by rw [l1]; simp; omega), Int.toNat_natCast]
    exact ⟨⟨by omega, by omega⟩, ⟨by omega, by omega⟩, by unfold inI; omega, by unfold inI; omega, by unfold inI; omega, by unfold inI; omega, ih⟩
abbrev cIsContract : Con := { A := (.cons tCt .nil), R := (.cons .bool .nil), pre := fun x => True, F := fun x => (isCtr x.1, ()) }
def cIsContract_0 (Λ1 : Int → Prop) (c : Ctr) (y0 : Bool) : Prop :=
  True ∧ (if (!(validS c.1)) = true then (true = true ∧ (true = true ∧ (true = true ∧ (true = true ∧ (true = true ∧ (false = y0 ∧ True)))))) else (True ∧ (True ∧ (if (bif false then true else (!(validS c.2.1))) = true then (true = true ∧ (true = true ∧ (true = true ∧ (true = true ∧ (false = y0 ∧ True))))) else (True ∧ (True ∧ (if (bif false then true else (!(isReg c.2.2.1))) = true then (true = true ∧ (true = true ∧ (true = true ∧ (false = y0 ∧ True)))) else (True ∧ (True ∧ (if (bif false then true else (!(isVal c.2.2.2.1))) = true then (true = true ∧ (true = true ∧ (false = y0 ∧ True))) else (True ∧ (True ∧ (if (bif false then true else (!(isVal c.2.2.2.2.1))) = true then (true = true ∧ (false = y0 ∧ True)) else (True ∧ (if (bif false then true else (decide (c.2.2.2.1 > c.2.2.2.2.1))) = true then (false = y0 ∧ True) else Λ1 (0 : Int))))))))))))))))
def cIsContract_1 (Λ1 : Int → Prop) (c : Ctr) (y0 : Bool)  (t43_1 : Int) : Prop :=
  if (decide (t43_1 < (List.length c.1 : Int))) = true then (idx t43_1 (List.length c.1 : Int) ∧ (idx t43_1 (List.length c.2.1 : Int) ∧ (if (decide ((List.getD c.1 (Int.toNat t43_1) 0) > (List.getD c.2.1 (Int.toNat t43_1) 0))) = true then (false = y0 ∧ True) else (inI (t43_1 + (1 : Int)) ∧ Λ1 (t43_1 + (1 : Int)))))) else (true = y0 ∧ True)
theorem cIsContract_law (h : ∀ (c : Ctr), cIsContract.A.wf (c, ()) → ∀ (Λ1 : Int → Prop), (∀ (t43_1 : Int), cIsContract_1 Λ1 c (isCtr c) t43_1 → Λ1 t43_1) → cIsContract_0 Λ1 c (isCtr c)) : ConOK Go.Proofs.Try.prog 131 cIsContract := by
  refine lawL (Γ := [(70, cIsReg2), (69, cIsState), (155, cIsVal2)]) (Θ := Th) (n := 56) [([1, 1, 0, 1, 0], ⟨[(1, true), (41, false), (42, true), (43, true)], [(1, false)]⟩)] ⟨cIsReg2_ok, cIsState_ok, cIsVal2_ok, trivial⟩ (by kernel_rfl) th_ok mix_ok Go.Proofs.Try.func131 (by kernel_rfl) ?_
  intro x hw hp Λ hC
  have h0 := h x.1 hw (fun t43_1 => Λ [1, 1, 0, 1, 0] ([(1, .ptr 1 0 []), (41, .d false (.sl .int) x.1.1), (42, .d true .int (List.length x.1.1 : Int)), (43, .d true .int t43_1)], [(1, .box false tCt x.1)])) (fun t43_1 hb => hC [1, 1, 0, 1, 0] ([(1, .ptr 1 0 []), (41, .d false (.sl .int) x.1.1), (42, .d true .int (List.length x.1.1 : Int)), (43, .d true .int t43_1)], [(1, .box false tCt x.1)]) (Eq.mpr (by kernel_rfl) hb))
  exact Eq.mpr (by kernel_rfl) h0
theorem cIsContract_ok : ConOK Go.Proofs.Try.prog 131 cIsContract := by
  refine cIsContract_law ?_
  intro c hw Λ1 h1
  unfold cIsContract_0
  refine ⟨trivial, ?_⟩
  unfold isCtr
  cases e1 : validS c.1
  · simp
  cases e2 : validS c.2.1
  · simp
  cases e3 : isReg c.2.2.1
  · simp
  cases e4 : isVal c.2.2.2.1
  · simp
  cases e5 : isVal c.2.2.2.2.1
  · simp
  by_cases e6 : c.2.2.2.1 > c.2.2.2.2.1
  · simp [e6]
    exact fun h => absurd h (by omega)
  have l1 := validS_len e1
  have l2 := validS_len e2
  have : Λ1 0 := by
    refine upto (n := 4) (Q := fun i => ((List.zipWith (fun (l h : Int) => decide (l ≤ h)) c.1 c.2.1).take i).all id = true → Λ1 i) ?_ ?_ 0 (by omega) rfl
    · intro ha
      rw [List.take_of_length_le (by simp only [List.length_zipWith]; omega)] at ha
      apply h1; unfold cIsContract_1
      rw [if_neg (by rw [l1]; simp)]
      unfold isCtr lowHigh
      rw [e1, e2, e3, e4, e5, ha]
      exact ⟨by simp; omega, trivial⟩
    · intro i hi ih ha
      apply h1; unfold cIsContract_1
      rw [if_pos (by rw [l1]; simp; omega), Int.toNat_natCast]
      refine ⟨⟨by omega, by omega⟩, ⟨by omega, by omega⟩, ?_⟩
      by_cases g : c.1.getD i 0 ≤ c.2.1.getD i 0
      · rw [if_neg (by simpa using g)]
        exact ⟨by unfold inI; omega, ih (zipAll_next' _ 0 0 (by omega) (by omega) ha (by simpa using g))⟩
      · rw [if_pos (by simpa using g)]
        unfold isCtr lowHigh
        rw [zipAll_false' (fun (l h : Int) => decide (l ≤ h)) 0 0 (i := i) (by omega) (by omega) (by simpa using g)]
        exact ⟨by simp, trivial⟩
  simp [this]
  omega
abbrev cValC : Con := { A := (.cons tCt .nil), R := (.cons .int .nil), pre := fun x => True, F := fun x => (validC x.1, ()) }
def cValC_0  (c : Ctr) (y0 : Int) : Prop :=
  True ∧ (if (!(isCtr c)) = true then ((1 : Int) = y0 ∧ True) else (boxC c ∧ (if (decide ((sizeC c) > (400 : Int))) = true then ((3 : Int) = y0 ∧ True) else ((0 : Int) = y0 ∧ True))))
theorem cValC_law (h : ∀ (c : Ctr), cValC.A.wf (c, ()) → cValC_0  c (validC c)) : ConOK Go.Proofs.Try.prog 66 cValC := by
  refine lawL (Γ := [(131, cIsContract), (67, cSize2)]) (Θ := Th) (n := 9) [] ⟨cIsContract_ok, cSize2_ok, trivial⟩ (by kernel_rfl) th_ok mix_ok Go.Proofs.Try.func66 (by kernel_rfl) ?_
  intro x hw hp Λ hC
  have h0 := h x.1 hw  
  exact Eq.mpr (by kernel_rfl) h0
theorem cValC_ok : ConOK Go.Proofs.Try.prog 66 cValC := by
  refine cValC_law ?_
  intro c hw
  unfold cValC_0
  refine ⟨trivial, ?_⟩
  unfold validC
  cases e : isCtr c
  · exact ⟨rfl, trivial⟩
  · rw [if_neg (by simp)]
    refine ⟨(isCtr_box e).1, ?_⟩
    simp only [decide_eq_true_eq]
    split
    · rw [if_pos trivial]; exact ⟨rfl, trivial⟩
    · rw [if_pos trivial]; exact ⟨rfl, trivial⟩
abbrev cBox2 : Con := { A := (.cons tCt .nil), R := (.cons .int (.cons .int .nil)), pre := fun x => True, F := fun x => ((if validC x.1 = 0 then sizeC x.1 else 0), validC x.1, ()) }
def cBox2_0  (c : Ctr) (y0 : Int) (y1 : Int) : Prop :=
  True ∧ (if ((validC c) != (0 : Int)) = true then ((0 : Int) = y0 ∧ (validC c) = y1 ∧ True) else (boxC c ∧ ((sizeC c) = y0 ∧ (0 : Int) = y1 ∧ True)))
theorem cBox2_law (h : ∀ (c : Ctr), cBox2.A.wf (c, ()) → cBox2_0  c (if validC c = 0 then sizeC c else 0) (validC c)) : ConOK Go.Proofs.Try.prog 14 cBox2 := by
  refine lawL (Γ := [(67, cSize2), (66, cValC)]) (Θ := Th) (n := 12) [] ⟨cSize2_ok, cValC_ok, trivial⟩ (by kernel_rfl) th_ok mix_ok Go.Proofs.Try.func14 (by kernel_rfl) ?_
  intro x hw hp Λ hC
  have h0 := h x.1 hw  
  exact Eq.mpr (by kernel_rfl) h0
theorem cBox2_ok : ConOK Go.Proofs.Try.prog 14 cBox2 := by
  refine cBox2_law ?_
  intro c hw
  unfold cBox2_0
  refine ⟨trivial, ?_⟩
  by_cases h : validC c = 0
  · rw [if_neg (by simp [h]), if_pos h, h]
    exact ⟨(isCtr_box (validC_ok h).1).1, rfl, rfl, trivial⟩
  · rw [if_pos (by simpa using h), if_neg h]
    exact ⟨rfl, rfl, trivial⟩
abbrev cLarge2 : Con := { A := (.cons (.sl .int) .nil), R := (.cons .bool .nil), pre := fun x => True, F := fun x => (decide (100 < x.1.length), ()) }
def cLarge2_0  (l : (List Int)) (y0 : Bool) : Prop :=
  (decide ((List.length l : Int) > (100 : Int))) = y0 ∧ True
theorem cLarge2_law (h : ∀ (l : (List Int)), cLarge2.A.wf (l, ()) → cLarge2_0  l (decide (100 < l.length))) : ConOK Go.Proofs.Try.prog 63 cLarge2 := by
  refine lawL (Γ := []) (Θ := Th) (n := 6) [] trivial (by kernel_rfl) th_ok mix_ok Go.Proofs.Try.func63 (by kernel_rfl) ?_
  intro x hw hp Λ hC
  have h0 := h x.1 hw  
  exact Eq.mpr (by kernel_rfl) h0
theorem cLarge2_ok : ConOK Go.Proofs.Try.prog 63 cLarge2 := by
  refine cLarge2_law ?_
  intro l hw
  unfold cLarge2_0
  exact ⟨by simp; omega, trivial⟩
abbrev cWide : Con := { A := (.cons tCt .nil), R := (.cons .bool .nil), pre := fun x => True, F := fun x => (decide (100 < x.1.1.length ∨ 100 < x.1.2.1.length), ()) }
def cWide_0  (c : Ctr) (y0 : Bool) : Prop :=
  True ∧ (if (decide (100 < c.1.length)) = true then (true = true ∧ (true = y0 ∧ True)) else (True ∧ (True ∧ ((bif false then true else (decide (100 < c.2.1.length))) = y0 ∧ True))))
theorem cWide_law (h : ∀ (c : Ctr), cWide.A.wf (c, ()) → cWide_0  c (decide (100 < c.1.length ∨ 100 < c.2.1.length))) : ConOK Go.Proofs.Try.prog 10 cWide := by
  refine lawL (Γ := [(63, cLarge2)]) (Θ := Th) (n := 11) [] ⟨cLarge2_ok, trivial⟩ (by kernel_rfl) th_ok mix_ok Go.Proofs.Try.func10 (by kernel_rfl) ?_
  intro x hw hp Λ hC
  have h0 := h x.1 hw  
  exact Eq.mpr (by kernel_rfl) h0
theorem cWide_ok : ConOK Go.Proofs.Try.prog 10 cWide := by
  refine cWide_law ?_
  intro c hw
  unfold cWide_0
  refine ⟨trivial, ?_⟩
  by_cases h : 100 < c.1.length
  · simp [h]
  · simp [h]
end Go.Tk
/- Plain facts: tests (layer 2). No program in sight. -/
set_option linter.unusedSimpArgs false
set_option linter.unusedVariables false
namespace Go.Tk
open Go Go.RowKit

def isTst (t : Tst) : Bool := validS t.1 && isReg t.2.1 && isVal t.2.2.1
def validT (l : List Tst) : Int := if l.length > 8 then 3 else argErr (l.all isTst)
def firstErr : List (List Lin) → Int
  | [] => 0
  | p :: ps => if validP p = 0 then firstErr ps else validP p
def errT (ps : List (List Lin)) (l : List Tst) : Int := if firstErr ps = 0 then validT l else firstErr ps
def endT (p : List Lin) (t : Tst) : Int := Rg (runS p t.1) t.2.1
def passT (p : List Lin) (t : Tst) : Bool := endT p t == t.2.2.1
/-- The places of what is so. -/
def whereTo (f : Tst → Bool) (l : List Tst) : Nat → List Int
  | 0 => []
  | n + 1 => whereTo f l n ++ if f (l.getD n tTs.dflt) = true then [(n : Int)] else []
def whereL (f : Tst → Bool) (l : List Tst) : List Int := whereTo f l l.length

theorem whereTo_len (f : Tst → Bool) (l : List Tst) : ∀ n, (whereTo f l n).length ≤ n
  | 0 => Nat.le_refl _
  | n + 1 => by
    unfold whereTo
    rw [List.length_append]
    have := whereTo_len f l n
    split <;> simp <;> omega
theorem whereTo_both (f : Tst → Bool) (l : List Tst) : ∀ n, (whereTo f l n).length + (whereTo (fun t => !f t) l n).length = n
  | 0 => rfl
  | n + 1 => by
    unfold whereTo
    rw [List.length_append, List.length_append]
    have := whereTo_both f l n
    cases f (l.getD n tTs.dflt) <;> simp <;> omega
theorem where_both (f : Tst → Bool) (l : List Tst) : (whereL f l).length + (whereL (fun t => !f t) l).length = l.length := whereTo_both f l l.length
theorem whereL_len (f : Tst → Bool) (l : List Tst) : (whereL f l).length ≤ l.length := whereTo_len f l l.length
theorem whereTo_congr {f g : Tst → Bool} (l : List Tst) : ∀ n, n ≤ l.length → (∀ t ∈ l, f t = g t) → whereTo f l n = whereTo g l n
  | 0, _, _ => rfl
  | n + 1, h, e => by
    unfold whereTo
    rw [whereTo_congr l n (by omega) e, e _ (mem_getD (by omega))]

theorem isTst_iff {t : Tst} : isTst t = true ↔ validS t.1 = true ∧ (0 ≤ t.2.1 ∧ t.2.1 ≤ 3) ∧ (-999 ≤ t.2.2.1 ∧ t.2.2.1 ≤ 999) := by
  unfold isTst isReg isVal
  rw [Bool.and_eq_true, Bool.and_eq_true, within_iff, within_iff, and_assoc]
theorem validT_ok {l : List Tst} (h : validT l = 0) : l.length ≤ 8 ∧ ∀ t ∈ l, isTst t = true := by
  unfold validT at h
  split at h
  · omega
  · exact ⟨by omega, fun t ht => List.all_eq_true.1 (argErr_zero.1 h) t ht⟩
theorem errT_ok {p : List Lin} {l : List Tst} (h : errT [p] l = 0) : validP p = 0 ∧ validT l = 0 := by
  unfold errT firstErr firstErr at h
  by_cases e : validP p = 0
  · rw [if_pos e, if_pos rfl] at h; exact ⟨e, h⟩
  · rw [if_neg e, if_neg e] at h; exact absurd h e
theorem errT2_ok {p q : List Lin} {l : List Tst} (h : errT [p, q] l = 0) : validP p = 0 ∧ validP q = 0 ∧ validT l = 0 := by
  unfold errT firstErr firstErr firstErr at h
  by_cases e : validP p = 0
  · rw [if_pos e] at h
    by_cases e2 : validP q = 0
    · rw [if_pos e2, if_pos rfl] at h; exact ⟨e, e2, h⟩
    · rw [if_neg e2, if_neg e2] at h; exact absurd h e2
  · rw [if_neg e, if_neg e] at h; exact absurd h e

/-! ### Tables -/
def markTo (l : List Int) (r : List Int) : Nat → List Int
  | 0 => r
  | n + 1 => (markTo l r n).set (l.getD n 0).toNat 1
theorem markTo_len (l r : List Int) : ∀ n, (markTo l r n).length = r.length
  | 0 => rfl
  | n + 1 => by unfold markTo; rw [List.length_set, markTo_len l r n]
def rowT (p : List Lin) (t : Tst) : List Int := markTo (doneS p t.1) (List.replicate p.length 0) (doneS p t.1).length
theorem rowT_len (p : List Lin) (t : Tst) : (rowT p t).length = p.length := by unfold rowT; rw [markTo_len, List.length_replicate]
def tableT (p : List Lin) (l : List Tst) : List (List Int) := l.map (rowT p)
theorem doneS_ok {p : List Lin} {s : List Int} (h : validS s = true) {i : Nat} (hi : i < (doneS p s).length) : 0 ≤ (doneS p s).getD i 0 ∧ (doneS p s).getD i 0 < p.length := by
  have g : (doneS p s).getD i 0 ∈ doneS p s := mem_getD hi
  unfold doneS at g
  obtain ⟨v, hv, e⟩ := List.mem_map.1 g
  have := visits_ok h v hv
  unfold doneS
  omega
theorem doneS_len (p : List Lin) (s : List Int) : (doneS p s).length ≤ p.length := by unfold doneS; rw [List.length_map]; exact visits_len _ _ _
theorem map_take_next {α β : Type} (f : α → β) (l : List α) (d : α) {i : Nat} (h : i < l.length) : (l.map f).take (i + 1) = (l.map f).take i ++ [f (l.getD i d)] := by
  rw [← List.map_take, ← List.map_take, take_snoc d h, List.map_append]; rfl
/-- The lines done in some test. -/
def covTo (rows : List (List Int)) : Nat → List Int
  | 0 => []
  | n + 1 => covTo rows n ++ if (rows.any fun r => r.getD n 0 == 1) = true then [(n : Int)] else []
theorem covTo_len (rows : List (List Int)) : ∀ n, (covTo rows n).length ≤ n
  | 0 => Nat.le_refl _
  | n + 1 => by
    unfold covTo
    rw [List.length_append]
    have := covTo_len rows n
    split <;> simp <;> omega
def coverT (p : List Lin) (l : List Tst) : List Int := covTo (tableT p l) p.length
theorem table_row {p : List Lin} {l : List Tst} {r : List Int} (h : r ∈ tableT p l) : r.length = p.length := by
  obtain ⟨t, _, rfl⟩ := List.mem_map.1 h
  exact rowT_len p t
def tellsT (p q : List Lin) (l : List Tst) : List Int := whereL (fun t => endT p t != endT q t) l
theorem tells_comm (p q : List Lin) (l : List Tst) : tellsT q p l = tellsT p q l := by
  unfold tellsT
  congr 1
  funext t
  exact bne_comm
def failL (p : List Lin) (l : List Tst) : List Int := whereL (fun t => !passT p t) l
end Go.Tk
set_option linter.unusedSimpArgs false
set_option linter.unusedVariables false
namespace Go.Tk
open Go Go.RowKit

abbrev cIsTest : Con := { A := (.cons tTs .nil), R := (.cons .bool .nil), pre := fun x => True, F := fun x => (isTst x.1, ()) }
def cIsTest_0  (t : Tst) (y0 : Bool) : Prop :=
  True ∧ (if (validS t.1) = true then (True ∧ (True ∧ (if (bif true then (isReg t.2.1) else false) = true then (True ∧ (True ∧ ((bif true then (isVal t.2.2.1) else false) = y0 ∧ True))) else (false = false ∧ (false = y0 ∧ True))))) else (false = false ∧ (false = false ∧ (false = y0 ∧ True))))
theorem cIsTest_law (h : ∀ (t : Tst), cIsTest.A.wf (t, ()) → cIsTest_0  t (isTst t)) : ConOK Go.Proofs.Try.prog 158 cIsTest := by
  refine lawL (Γ := [(70, cIsReg2), (69, cIsState), (155, cIsVal2)]) (Θ := Th) (n := 16) [] ⟨cIsReg2_ok, cIsState_ok, cIsVal2_ok, trivial⟩ (by kernel_rfl) th_ok mix_ok Go.Proofs.Try.func158 (by kernel_rfl) ?_
  intro x hw hp Λ hC
  have h0 := h x.1 hw  
  exact Eq.mpr (by kernel_rfl) h0
theorem cIsTest_ok : ConOK Go.Proofs.Try.prog 158 cIsTest := by
  refine cIsTest_law ?_
  intro t hw
  unfold cIsTest_0
  refine ⟨trivial, ?_⟩
  unfold isTst
  cases validS t.1
  · simp
  · cases isReg t.2.1 <;> simp
abbrev cNotTest : Con := { A := (.cons tTs .nil), R := (.cons .bool .nil), pre := fun x => True, F := fun x => (!(isTst x.1), ()) }
def cNotTest_0  (t : Tst) (y0 : Bool) : Prop :=
  True ∧ ((!(isTst t)) = y0 ∧ True)
theorem cNotTest_law (h : ∀ (t : Tst), cNotTest.A.wf (t, ()) → cNotTest_0  t (!(isTst t))) : ConOK Go.Proofs.Try.prog 157 cNotTest := by
  refine lawL (Γ := [(158, cIsTest)]) (Θ := Th) (n := 6) [] ⟨cIsTest_ok, trivial⟩ (by kernel_rfl) th_ok mix_ok Go.Proofs.Try.func157 (by kernel_rfl) ?_
  intro x hw hp Λ hC
  have h0 := h x.1 hw  
  exact Eq.mpr (by kernel_rfl) h0
theorem cNotTest_ok : ConOK Go.Proofs.Try.prog 157 cNotTest := by
  refine cNotTest_law ?_
  intro t hw
  unfold cNotTest_0
  exact ⟨trivial, rfl, trivial⟩
abbrev cIndexT : Con := { A := (.cons (.sl tTs) (.cons (.fn (.cons tTs .nil) (.cons .bool .nil)) .nil)), R := (.cons .int .nil), pre := fun x => ∀ r', tTs.wf r' → x.2.1.1 (r', ()), F := fun x => (idxF (fun r' => (x.2.1.2 (r', ())).1) x.1, ()) }
def cIndexT_0 (Λ1 : Int → Prop) (s : (List Tst)) (f : (T.fn (.cons tTs .nil) (.cons .bool .nil)).den) (y0 : Int) : Prop :=
  Λ1 (0 : Int)
def cIndexT_1 (Λ1 : Int → Prop) (s : (List Tst)) (f : (T.fn (.cons tTs .nil) (.cons .bool .nil)).den) (y0 : Int)  (t8_1 : Int) : Prop :=
  if (decide (t8_1 < (List.length s : Int))) = true then (idx t8_1 (List.length s : Int) ∧ (f.1 ((List.getD s (Int.toNat t8_1) tTs.dflt), ()) ∧ (if ((f.2 ((List.getD s (Int.toNat t8_1) tTs.dflt), ())).1) = true then (t8_1 = y0 ∧ True) else (inI (t8_1 + (1 : Int)) ∧ Λ1 (t8_1 + (1 : Int)))))) else ((-1 : Int) = y0 ∧ True)
theorem cIndexT_law (h : ∀ (s : (List Tst)) (f : (T.fn (.cons tTs .nil) (.cons .bool .nil)).den), cIndexT.A.wf (s, f, ()) → (∀ r', tTs.wf r' → f.1 (r', ())) → ∀ (Λ1 : Int → Prop), (∀ (t8_1 : Int), cIndexT_1 Λ1 s f (idxF (fun r' => (f.2 (r', ())).1) s) t8_1 → Λ1 t8_1) → cIndexT_0 Λ1 s f (idxF (fun r' => (f.2 (r', ())).1) s)) : ConOK Go.Proofs.Try.prog 173 cIndexT := by
  refine lawL (Γ := []) (Θ := Th) (n := 19) [([1, 0, 1, 0], ⟨[(0, false), (1, false), (7, true), (8, true)], []⟩)] trivial (by kernel_rfl) th_ok mix_ok Go.Proofs.Try.func173 (by kernel_rfl) ?_
  intro x hw hp Λ hC
  have h0 := h x.1 x.2.1 hw hp (fun t8_1 => Λ [1, 0, 1, 0] ([(0, .d false (.sl tTs) x.1), (1, .d false (.fn (.cons tTs .nil) (.cons .bool .nil)) x.2.1), (7, .d true .int (List.length x.1 : Int)), (8, .d true .int t8_1)], [])) (fun t8_1 hb => hC [1, 0, 1, 0] ([(0, .d false (.sl tTs) x.1), (1, .d false (.fn (.cons tTs .nil) (.cons .bool .nil)) x.2.1), (7, .d true .int (List.length x.1 : Int)), (8, .d true .int t8_1)], []) (Eq.mpr (by kernel_rfl) hb))
  exact Eq.mpr (by kernel_rfl) h0
theorem cIndexT_ok : ConOK Go.Proofs.Try.prog 173 cIndexT := by
  refine cIndexT_law ?_
  intro s f hw hp Λ1 h1
  unfold cIndexT_0
  refine upto (n := s.length) (Q := fun i => (s.take i).any (fun r => (f.2 (r, ())).1) = false → Λ1 i) ?_ ?_ 0 (Nat.zero_le _) rfl
  · intro ha
    rw [List.take_length] at ha
    apply h1; unfold cIndexT_1; rw [if_neg (by simp), idxF_none ha]
    exact ⟨rfl, trivial⟩
  · intro i hi ih ha
    apply h1; unfold cIndexT_1; rw [if_pos (by simpa using hi), Int.toNat_natCast]
    refine ⟨idx_nat hi, hp _ (hw.1.2 _ (mem_getD hi)), ?_⟩
    cases hv : (f.2 (List.getD s i tTs.dflt, ())).1
    · rw [if_neg (by simp)]
      exact ⟨inI_succ hi hw.1.1, ih (any_take_next (p := fun r => (f.2 (r, ())).1) tTs.dflt hi ha hv)⟩
    · rw [if_pos (by rfl), idxF_at (p := fun r => (f.2 (r, ())).1) tTs.dflt hi ha hv]
      exact ⟨rfl, trivial⟩
abbrev cContT : Con := { A := (.cons (.sl tTs) (.cons (.fn (.cons tTs .nil) (.cons .bool .nil)) .nil)), R := (.cons .bool .nil), pre := fun x => ∀ r', tTs.wf r' → x.2.1.1 (r', ()), F := fun x => (x.1.any (fun r' => (x.2.1.2 (r', ())).1), ()) }
def cContT_0  (s : (List Tst)) (f : (T.fn (.cons tTs .nil) (.cons .bool .nil)).den) (y0 : Bool) : Prop :=
  (∀ r', tTs.wf r' → f.1 (r', ())) ∧ ((decide ((idxF (fun r' => (f.2 (r', ())).1) s) ≥ (0 : Int))) = y0 ∧ True)
theorem cContT_law (h : ∀ (s : (List Tst)) (f : (T.fn (.cons tTs .nil) (.cons .bool .nil)).den), cContT.A.wf (s, f, ()) → (∀ r', tTs.wf r' → f.1 (r', ())) → cContT_0  s f (s.any (fun r' => (f.2 (r', ())).1))) : ConOK Go.Proofs.Try.prog 156 cContT := by
  refine lawL (Γ := [(173, cIndexT)]) (Θ := Th) (n := 9) [] ⟨cIndexT_ok, trivial⟩ (by kernel_rfl) th_ok mix_ok Go.Proofs.Try.func156 (by kernel_rfl) ?_
  intro x hw hp Λ hC
  have h0 := h x.1 x.2.1 hw hp  
  exact Eq.mpr (by kernel_rfl) h0
theorem cContT_ok : ConOK Go.Proofs.Try.prog 156 cContT := by
  refine cContT_law ?_
  intro s f hw hp
  unfold cContT_0
  exact ⟨hp, idxF_any _ _, trivial⟩
abbrev cValT : Con := { A := (.cons (.sl tTs) .nil), R := (.cons .int .nil), pre := fun x => True, F := fun x => (validT x.1, ()) }
def cValT_0  (l : (List Tst)) (y0 : Int) : Prop :=
  if (decide ((List.length l : Int) > (8 : Int))) = true then ((3 : Int) = y0 ∧ True) else ((∀ r', tTs.wf r' → (fun (xx : (Tst × Unit)) => True, fun (xx : (Tst × Unit)) => (!(isTst xx.1), ())).1 (r', ())) ∧ (if (l.any (fun r' => ((fun (xx : (Tst × Unit)) => True, fun (xx : (Tst × Unit)) => (!(isTst xx.1), ())).2 (r', ())).1)) = true then ((1 : Int) = y0 ∧ True) else ((0 : Int) = y0 ∧ True)))
theorem cValT_law (h : ∀ (l : (List Tst)), cValT.A.wf (l, ()) → cValT_0  l (validT l)) : ConOK Go.Proofs.Try.prog 132 cValT := by
  refine lawL (Γ := [(156, cContT), (157, cNotTest)]) (Θ := Th) (n := 8) [] ⟨cContT_ok, cNotTest_ok, trivial⟩ (by kernel_rfl) th_ok mix_ok Go.Proofs.Try.func132 (by kernel_rfl) ?_
  intro x hw hp Λ hC
  have h0 := h x.1 hw  
  exact Eq.mpr (by kernel_rfl) h0
theorem cValT_ok : ConOK Go.Proofs.Try.prog 132 cValT := by
  refine cValT_law ?_
  intro l hw
  unfold cValT_0
  unfold validT
  simp only [decide_eq_true_eq]
  by_cases h : l.length > 8
  · rw [if_pos (by omega), if_pos h]; exact ⟨rfl, trivial⟩
  · rw [if_neg (by omega), if_neg h]
    refine ⟨fun _ _ => trivial, ?_⟩
    show if (l.any fun r => !isTst r) = true then _ else _
    rw [any_not_all]
    cases l.all isTst <;> exact ⟨rfl, trivial⟩
abbrev cTested : Con := { A := (.cons (.sl tTs) (.cons (.sl (.sl tL)) .nil)), R := (.cons .int .nil), pre := fun x => True, F := fun x => (errT x.2.1 x.1, ()) }
def cTested_0 (Λ1 : Int → Prop) (l : (List Tst)) (programs : (List (List Lin))) (y0 : Int) : Prop :=
  Λ1 (0 : Int)
def cTested_1 (Λ1 : Int → Prop) (l : (List Tst)) (programs : (List (List Lin))) (y0 : Int)  (t10_1 : Int) : Prop :=
  if (decide (t10_1 < (List.length programs : Int))) = true then (idx t10_1 (List.length programs : Int) ∧ (True ∧ (if ((validP (List.getD programs (Int.toNat t10_1) ([] : List Lin))) != (0 : Int)) = true then ((validP (List.getD programs (Int.toNat t10_1) ([] : List Lin))) = y0 ∧ True) else (inI (t10_1 + (1 : Int)) ∧ Λ1 (t10_1 + (1 : Int)))))) else (True ∧ ((validT l) = y0 ∧ True))
theorem cTested_law (h : ∀ (l : (List Tst)) (programs : (List (List Lin))), cTested.A.wf (l, programs, ()) → ∀ (Λ1 : Int → Prop), (∀ (t10_1 : Int), cTested_1 Λ1 l programs (errT programs l) t10_1 → Λ1 t10_1) → cTested_0 Λ1 l programs (errT programs l)) : ConOK Go.Proofs.Try.prog 72 cTested := by
  refine lawL (Γ := [(68, cValP), (132, cValT)]) (Θ := Th) (n := 22) [([1, 0, 1, 0], ⟨[(0, false), (8, false), (9, true), (10, true)], []⟩)] ⟨cValP_ok, cValT_ok, trivial⟩ (by kernel_rfl) th_ok mix_ok Go.Proofs.Try.func72 (by kernel_rfl) ?_
  intro x hw hp Λ hC
  have h0 := h x.1 x.2.1 hw (fun t10_1 => Λ [1, 0, 1, 0] ([(0, .d false (.sl tTs) x.1), (8, .d false (.sl (.sl tL)) x.2.1), (9, .d true .int (List.length x.2.1 : Int)), (10, .d true .int t10_1)], [])) (fun t10_1 hb => hC [1, 0, 1, 0] ([(0, .d false (.sl tTs) x.1), (8, .d false (.sl (.sl tL)) x.2.1), (9, .d true .int (List.length x.2.1 : Int)), (10, .d true .int t10_1)], []) (Eq.mpr (by kernel_rfl) hb))
  exact Eq.mpr (by kernel_rfl) h0
theorem cTested_ok : ConOK Go.Proofs.Try.prog 72 cTested := by
  refine cTested_law ?_
  intro l programs hw Λ1 h1
  unfold cTested_0
  have key : ∀ n i, i + n = programs.length → firstErr programs = firstErr (programs.drop i) → Λ1 i := by
    intro n
    induction n with
    | zero =>
      intro i hi e
      apply h1; unfold cTested_1
      rw [if_neg (by simp; omega)]
      rw [List.drop_eq_nil_of_le (by omega)] at e
      refine ⟨trivial, ?_, trivial⟩
      unfold errT
      rw [if_pos (by rw [e]; rfl)]
    | succ n ih =>
      intro i hi e
      have hl : i < programs.length := by omega
      apply h1; unfold cTested_1
      rw [if_pos (by simpa using hl), Int.toNat_natCast]
      have hd : programs.drop i = programs.getD i [] :: programs.drop (i + 1) := by
        rw [List.drop_eq_getElem_cons hl]; simp [List.getD_eq_getElem?_getD, hl]
      rw [hd, firstErr] at e
      refine ⟨idx_nat hl, trivial, ?_⟩
      by_cases g : validP (programs.getD i []) = 0
      · rw [if_pos g] at e
        rw [if_neg (by simpa using g)]
        exact ⟨inI_succ hl hw.2.1.1, ih (i + 1) (by omega) e⟩
      · rw [if_neg g] at e
        rw [if_pos (by simpa using g)]
        refine ⟨?_, trivial⟩
        unfold errT
        rw [e, if_neg g]
  exact key programs.length 0 (by omega) rfl
abbrev cEnd : Con := { A := (.cons (.sl tL) (.cons (.sl .int) (.cons .int .nil))), R := (.cons .int .nil), pre := fun x => validP x.1 = 0 ∧ validS x.2.1 = true ∧ 0 ≤ x.2.2.1 ∧ x.2.2.1 ≤ 3, F := fun x => (Rg (runS x.1 x.2.1) x.2.2.1, ()) }
def cEnd_0  (p : (List Lin)) (in_ : (List Int)) (out : Int) (y0 : Int) : Prop :=
  True ∧ (idx out (List.length ((if err1 p in_ = 0 then runS p in_ else [])) : Int) ∧ ((List.getD ((if err1 p in_ = 0 then runS p in_ else [])) (Int.toNat out) 0) = y0 ∧ True))
theorem cEnd_law (h : ∀ (p : (List Lin)) (in_ : (List Int)) (out : Int), cEnd.A.wf (p, in_, out, ()) → (validP p = 0 ∧ validS in_ = true ∧ 0 ≤ out ∧ out ≤ 3) → cEnd_0  p in_ out (Rg (runS p in_) out)) : ConOK Go.Proofs.Try.prog 65 cEnd := by
  refine lawL (Γ := [(26, cRun)]) (Θ := Th) (n := 19) [] ⟨cRun_ok, trivial⟩ (by kernel_rfl) th_ok mix_ok Go.Proofs.Try.func65 (by kernel_rfl) ?_
  intro x hw hp Λ hC
  have h0 := h x.1 x.2.1 x.2.2.1 hw hp  
  exact Eq.mpr (by kernel_rfl) h0
theorem cEnd_ok : ConOK Go.Proofs.Try.prog 65 cEnd := by
  refine cEnd_law ?_
  intro p in_ out hw hp
  unfold cEnd_0
  obtain ⟨p1, p2, p3, p4⟩ := hp
  have e : err1 p in_ = 0 := by unfold err1; rw [if_pos p1, p2]; rfl
  have l4 := validS_len (runS_ok (p := p) p2)
  rw [if_pos e]
  exact ⟨trivial, ⟨p3, by omega⟩, rfl, trivial⟩
abbrev cPassT : Con := { A := (.cons (.sl tL) (.cons tTs .nil)), R := (.cons .bool .nil), pre := fun x => validP x.1 = 0 ∧ isTst x.2.1 = true, F := fun x => (passT x.1 x.2.1, ()) }
def cPassT_0  (p : (List Lin)) (t : Tst) (y0 : Bool) : Prop :=
  (validP p = 0 ∧ validS t.1 = true ∧ 0 ≤ t.2.1 ∧ t.2.1 ≤ 3) ∧ (((Rg (runS p t.1) t.2.1) == t.2.2.1) = y0 ∧ True)
theorem cPassT_law (h : ∀ (p : (List Lin)) (t : Tst), cPassT.A.wf (p, t, ()) → (validP p = 0 ∧ isTst t = true) → cPassT_0  p t (passT p t)) : ConOK Go.Proofs.Try.prog 73 cPassT := by
  refine lawL (Γ := [(65, cEnd)]) (Θ := Th) (n := 14) [] ⟨cEnd_ok, trivial⟩ (by kernel_rfl) th_ok mix_ok Go.Proofs.Try.func73 (by kernel_rfl) ?_
  intro x hw hp Λ hC
  have h0 := h x.1 x.2.1 hw hp  
  exact Eq.mpr (by kernel_rfl) h0
theorem cPassT_ok : ConOK Go.Proofs.Try.prog 73 cPassT := by
  refine cPassT_law ?_
  intro p t hw hp
  unfold cPassT_0
  obtain ⟨p1, p2⟩ := hp
  obtain ⟨q1, q2, q3⟩ := isTst_iff.1 p2
  exact ⟨⟨p1, q1, q2.1, q2.2⟩, rfl, trivial⟩
abbrev cWhere : Con := { A := (.cons (.sl tTs) (.cons (.fn (.cons tTs .nil) (.cons .bool .nil)) .nil)), R := (.cons (.osl .int) .nil), pre := fun x => x.1.length ≤ 1000000 ∧ ∀ t' ∈ x.1, tTs.wf t' → x.2.1.1 (t', ()), F := fun x => (whereL (fun t' => (x.2.1.2 (t', ())).1) x.1, ()) }
def cWhere_0 (Λ1 : Int → (List Int) → Prop) (l : (List Tst)) (is_ : (T.fn (.cons tTs .nil) (.cons .bool .nil)).den) (y0 : (List Int)) : Prop :=
  Λ1 (0 : Int) ([] : List Int)
def cWhere_1 (Λ1 : Int → (List Int) → Prop) (l : (List Tst)) (is_ : (T.fn (.cons tTs .nil) (.cons .bool .nil)).den) (y0 : (List Int))  (t10_1 : Int) (out_1 : (List Int)) : Prop :=
  if (decide (t10_1 < (List.length l : Int))) = true then (idx t10_1 (List.length l : Int) ∧ (is_.1 ((List.getD l (Int.toNat t10_1) tTs.dflt), ()) ∧ (if ((is_.2 ((List.getD l (Int.toNat t10_1) tTs.dflt), ())).1) = true then (List.length out_1 + List.length [t10_1] ≤ 4294967296 ∧ (inI (t10_1 + (1 : Int)) ∧ Λ1 (t10_1 + (1 : Int)) (out_1 ++ [t10_1]))) else (inI (t10_1 + (1 : Int)) ∧ Λ1 (t10_1 + (1 : Int)) out_1)))) else out_1 = y0
theorem cWhere_law (h : ∀ (l : (List Tst)) (is_ : (T.fn (.cons tTs .nil) (.cons .bool .nil)).den), cWhere.A.wf (l, is_, ()) → (l.length ≤ 1000000 ∧ ∀ t' ∈ l, tTs.wf t' → is_.1 (t', ())) → ∀ (Λ1 : Int → (List Int) → Prop), (∀ (t10_1 : Int) (out_1 : (List Int)), cWhere_1 Λ1 l is_ (whereL (fun t' => (is_.2 (t', ())).1) l) t10_1 out_1 → Λ1 t10_1 out_1) → cWhere_0 Λ1 l is_ (whereL (fun t' => (is_.2 (t', ())).1) l)) : ConOK Go.Proofs.Try.prog 74 cWhere := by
  refine lawL (Γ := []) (Θ := Th) (n := 24) [([1, 1, 0, 1, 0], ⟨[(1, false), (5, true), (8, false), (9, true), (10, true)], [(5, true)]⟩)] trivial (by kernel_rfl) th_ok mix_ok Go.Proofs.Try.func74 (by kernel_rfl) ?_
  intro x hw hp Λ hC
  have h0 := h x.1 x.2.1 hw hp (fun t10_1 out_1 => Λ [1, 1, 0, 1, 0] ([(1, .d false (.fn (.cons tTs .nil) (.cons .bool .nil)) x.2.1), (5, .own 5 0), (8, .d false (.sl tTs) x.1), (9, .d true .int (List.length x.1 : Int)), (10, .d true .int t10_1)], [(5, .sl true .int out_1)])) (fun t10_1 out_1 hb => hC [1, 1, 0, 1, 0] ([(1, .d false (.fn (.cons tTs .nil) (.cons .bool .nil)) x.2.1), (5, .own 5 0), (8, .d false (.sl tTs) x.1), (9, .d true .int (List.length x.1 : Int)), (10, .d true .int t10_1)], [(5, .sl true .int out_1)]) (Eq.mpr (by kernel_rfl) hb))
  exact Eq.mpr (by kernel_rfl) h0
theorem cWhere_ok : ConOK Go.Proofs.Try.prog 74 cWhere := by
  refine cWhere_law ?_
  intro l is_ hw hp Λ1 h1
  unfold cWhere_0
  obtain ⟨p1, p2⟩ := hp
  refine upto (n := l.length) (Q := fun i => Λ1 i (whereTo (fun t' => (is_.2 (t', ())).1) l i)) ?_ ?_ 0 (Nat.zero_le _)
  · apply h1; unfold cWhere_1; rw [if_neg (by simp)]; exact rfl
  · intro i hi ih
    apply h1; unfold cWhere_1; rw [if_pos (by simpa using hi), Int.toNat_natCast]
    have hm : List.getD l i tTs.dflt ∈ l := mem_getD hi
    refine ⟨idx_nat hi, p2 _ hm (hw.1.2 _ hm), ?_⟩
    unfold whereTo at ih
    have hle := whereTo_len (fun t' => (is_.2 (t', ())).1) l i
    cases hv : (is_.2 (List.getD l i tTs.dflt, ())).1
    · rw [hv, if_neg (by simp), List.append_nil] at ih
      rw [if_neg (by simp)]
      exact ⟨inI_succ hi (by omega), ih⟩
    · rw [hv, if_pos rfl] at ih
      rw [if_pos (by rfl)]
      exact ⟨by simp only [List.length_cons, List.length_nil]; omega, inI_succ hi (by omega), ih⟩
theorem errT_cases (p : List Lin) (l : List Tst) : errT [p] l = if validP p = 0 then validT l else validP p := by
  unfold errT firstErr firstErr
  by_cases e : validP p = 0
  · rw [if_pos e, if_pos rfl, if_pos e]
  · rw [if_neg e, if_neg e]
theorem errT2_cases (p q : List Lin) (l : List Tst) : errT [p, q] l = if validP p = 0 then errT [q] l else validP p := by
  rw [errT_cases]
  unfold errT firstErr firstErr firstErr
  by_cases e : validP p = 0
  · rw [if_pos e, if_pos e]
    by_cases e2 : validP q = 0
    · rw [if_pos e2, if_pos rfl, if_pos e2]
    · rw [if_neg e2, if_neg e2]
  · rw [if_neg e, if_neg e, if_neg e]

abbrev cPasses : Con := { A := (.cons (.sl tL) (.cons tTs .nil)), R := (.cons .bool (.cons .int .nil)), pre := fun x => True, F := fun x => ((errT [x.1] [x.2.1] == 0 && passT x.1 x.2.1), errT [x.1] [x.2.1], ()) }
def cPasses_0  (p : (List Lin)) (t : Tst) (y0 : Bool) (y1 : Int) : Prop :=
  True ∧ (if ((errT [p] [t]) != (0 : Int)) = true then (false = y0 ∧ (errT [p] [t]) = y1 ∧ True) else ((validP p = 0 ∧ isTst t = true) ∧ ((passT p t) = y0 ∧ (0 : Int) = y1 ∧ True)))
theorem cPasses_law (h : ∀ (p : (List Lin)) (t : Tst), cPasses.A.wf (p, t, ()) → cPasses_0  p t (errT [p] [t] == 0 && passT p t) (errT [p] [t])) : ConOK Go.Proofs.Try.prog 16 cPasses := by
  refine lawL (Γ := [(73, cPassT), (72, cTested)]) (Θ := Th) (n := 18) [] ⟨cPassT_ok, cTested_ok, trivial⟩ (by kernel_rfl) th_ok mix_ok Go.Proofs.Try.func16 (by kernel_rfl) ?_
  intro x hw hp Λ hC
  have h0 := h x.1 x.2.1 hw  
  exact Eq.mpr (by kernel_rfl) h0
theorem cPasses_ok : ConOK Go.Proofs.Try.prog 16 cPasses := by
  refine cPasses_law ?_
  intro p t hw
  unfold cPasses_0
  refine ⟨trivial, ?_⟩
  by_cases h : errT [p] [t] = 0
  · rw [if_neg (by simp [h])]
    obtain ⟨h1, h2⟩ := errT_ok h
    exact ⟨⟨h1, (validT_ok h2).2 t (by simp)⟩, by simp [h], h.symm, trivial⟩
  · rw [if_pos (by simpa using h)]
    exact ⟨by simp [h], rfl, trivial⟩
abbrev cTells1 : Con := { A := (.cons tTs (.cons (.ref (.sl tL)) (.cons (.ref (.sl tL)) .nil))), R := (.cons .bool .nil), pre := fun x => validP x.2.1 = 0 ∧ validP x.2.2.1 = 0 ∧ isTst x.1 = true, F := fun x => (endT x.2.1 x.1 != endT x.2.2.1 x.1, ()) }
def cTells1_0  (t : Tst) (c0 : (List Lin)) (c1 : (List Lin)) (y0 : Bool) : Prop :=
  (validP c0 = 0 ∧ validS t.1 = true ∧ 0 ≤ t.2.1 ∧ t.2.1 ≤ 3) ∧ ((validP c1 = 0 ∧ validS t.1 = true ∧ 0 ≤ t.2.1 ∧ t.2.1 ≤ 3) ∧ (((Rg (runS c0 t.1) t.2.1) != (Rg (runS c1 t.1) t.2.1)) = y0 ∧ True))
theorem cTells1_law (h : ∀ (t : Tst) (c0 : (List Lin)) (c1 : (List Lin)), cTells1.A.wf (t, c0, c1, ()) → (validP c0 = 0 ∧ validP c1 = 0 ∧ isTst t = true) → cTells1_0  t c0 c1 (endT c0 t != endT c1 t)) : ConOK Go.Proofs.Try.prog 75 cTells1 := by
  refine lawL (Γ := [(65, cEnd)]) (Θ := Th) (n := 18) [] ⟨cEnd_ok, trivial⟩ (by kernel_rfl) th_ok mix_ok Go.Proofs.Try.func75 (by kernel_rfl) ?_
  intro x hw hp Λ hC
  have h0 := h x.1 x.2.1 x.2.2.1 hw hp  
  exact Eq.mpr (by kernel_rfl) h0
theorem cTells1_ok : ConOK Go.Proofs.Try.prog 75 cTells1 := by
  refine cTells1_law ?_
  intro t c0 c1 hw hp
  unfold cTells1_0
  obtain ⟨p1, p2, p3⟩ := hp
  obtain ⟨q1, q2, q3⟩ := isTst_iff.1 p3
  exact ⟨⟨p1, q1, q2.1, q2.2⟩, ⟨p2, q1, q2.1, q2.2⟩, rfl, trivial⟩
abbrev cTells : Con := { A := (.cons (.sl tL) (.cons (.sl tL) (.cons (.sl tTs) .nil))), R := (.cons (.sl .int) (.cons .int .nil)), pre := fun x => True, F := fun x => ((if errT [x.1, x.2.1] x.2.2.1 = 0 then tellsT x.1 x.2.1 x.2.2.1 else []), errT [x.1, x.2.1] x.2.2.1, ()) }
def cTells_0  (p : (List Lin)) (q : (List Lin)) (l : (List Tst)) (y0 : (List Int)) (y1 : Int) : Prop :=
  True ∧ (if ((errT [p, q] l) != (0 : Int)) = true then (([] : List Int) = y0 ∧ (errT [p, q] l) = y1 ∧ True) else ((l.length ≤ 1000000 ∧ ∀ t' ∈ l, tTs.wf t' → (fun (xx : (Tst × Unit)) => validP p = 0 ∧ validP q = 0 ∧ isTst xx.1 = true, fun (xx : (Tst × Unit)) => (endT p xx.1 != endT q xx.1, ())).1 (t', ())) ∧ ((whereL (fun t' => ((fun (xx : (Tst × Unit)) => validP p = 0 ∧ validP q = 0 ∧ isTst xx.1 = true, fun (xx : (Tst × Unit)) => (endT p xx.1 != endT q xx.1, ())).2 (t', ())).1) l) = y0 ∧ (0 : Int) = y1 ∧ True)))
theorem cTells_law (h : ∀ (p : (List Lin)) (q : (List Lin)) (l : (List Tst)), cTells.A.wf (p, q, l, ()) → cTells_0  p q l (if errT [p, q] l = 0 then tellsT p q l else []) (errT [p, q] l)) : ConOK Go.Proofs.Try.prog 17 cTells := by
  refine lawX (X := { subs := [], frz := [3, 4], U := [], mul := [], nst := [], nls := [], itf := none, inp := [], arrs := [] }) (hX := xok0 _ trivial) (Γ := [(75, cTells1), (72, cTested), (74, cWhere)]) (Θ := Th) (n := 20) [] ⟨cTells1_ok, cTested_ok, cWhere_ok, trivial⟩ (by kernel_rfl) th_ok mix_ok Go.Proofs.Try.func17 (by kernel_rfl) ?_
  intro x hw hp Λ hC
  have h0 := h x.1 x.2.1 x.2.2.1 hw  
  exact Eq.mpr (by kernel_rfl) h0
theorem cTells_ok : ConOK Go.Proofs.Try.prog 17 cTells := by
  refine cTells_law ?_
  intro p q l hw
  unfold cTells_0
  refine ⟨trivial, ?_⟩
  by_cases h : errT [p, q] l = 0
  · rw [if_neg (by simp [h]), if_pos h]
    obtain ⟨h1, h1', h2⟩ := errT2_ok h
    obtain ⟨h3, h4⟩ := validT_ok h2
    exact ⟨⟨by omega, fun t' ht _ => ⟨h1, h1', h4 t' ht⟩⟩, rfl, h.symm, trivial⟩
  · rw [if_pos (by simpa using h), if_neg h]
    exact ⟨rfl, rfl, trivial⟩
end Go.Tk
set_option linter.unusedSimpArgs false
set_option linter.unusedVariables false
set_option linter.unnecessarySimpa false
namespace Go.Tk
open Go Go.RowKit

def err7t (p : List Lin) (h : List (List Edt)) (l : List Tst) : Int := if err7 p h = 0 then validT l else err7 p h
theorem err7t_ok {p : List Lin} {h : List (List Edt)} {l : List Tst} (e : err7t p h l = 0) : err7 p h = 0 ∧ validT l = 0 := by
  unfold err7t at e
  split at e
  · exact ⟨by assumption, e⟩
  · rename_i g; exact absurd e g
def okAt (p : List Lin) (h : List (List Edt)) (t : Tst) (n : Nat) : Bool := errT [playH p (h.take n)] [t] == 0 && passT (playH p (h.take n)) t
def greenTo (p : List Lin) (h : List (List Edt)) (t : Tst) : Nat → List Int
  | 0 => []
  | n + 1 => greenTo p h t n ++ if okAt p h t n = true then [(n : Int)] else []
theorem greenTo_len (p : List Lin) (h : List (List Edt)) (t : Tst) : ∀ n, (greenTo p h t n).length ≤ n
  | 0 => Nat.le_refl _
  | n + 1 => by
    unfold greenTo
    rw [List.length_append]
    have := greenTo_len p h t n
    split <;> simp <;> omega
def oksTo (p : List Lin) (h : List (List Edt)) (t : Tst) : Nat → List Bool
  | 0 => []
  | n + 1 => oksTo p h t n ++ [okAt p h t n]
theorem oksTo_len (p : List Lin) (h : List (List Edt)) (t : Tst) : ∀ n, (oksTo p h t n).length = n
  | 0 => rfl
  | n + 1 => by unfold oksTo; rw [List.length_append, oksTo_len p h t n]; rfl
theorem oksTo_get (p : List Lin) (h : List (List Edt)) (t : Tst) : ∀ n i, i < n → (oksTo p h t n).getD i false = okAt p h t i
  | 0, i, hi => by omega
  | n + 1, i, hi => by
    unfold oksTo
    rw [List.getD_eq_getElem?_getD, List.getElem?_append]
    by_cases e : i < n
    · rw [if_pos (by rw [oksTo_len]; exact e), ← List.getD_eq_getElem?_getD, oksTo_get p h t n i e]
    · have : i = n := by omega
      subst this
      rw [if_neg (by rw [oksTo_len]; omega), oksTo_len]; simp

abbrev cTested7 : Con := { A := (.cons (.sl tL) (.cons (.sl (.sl tEd)) (.cons (.sl tTs) .nil))), R := (.cons .int .nil), pre := fun x => True, F := fun x => (err7t x.1 x.2.1 x.2.2.1, ()) }
def cTested7_0  (p : (List Lin)) (h : (List (List Edt))) (l : (List Tst)) (y0 : Int) : Prop :=
  True ∧ (if ((err7 p h) != (0 : Int)) = true then ((err7 p h) = y0 ∧ True) else (True ∧ ((validT l) = y0 ∧ True)))
theorem cTested7_law (h : ∀ (p : (List Lin)) (h : (List (List Edt))) (l : (List Tst)), cTested7.A.wf (p, h, l, ()) → cTested7_0  p h l (err7t p h l)) : ConOK Go.Proofs.Try.prog 111 cTested7 := by
  refine lawL (Γ := [(36, cVal7), (132, cValT)]) (Θ := Th) (n := 16) [] ⟨cVal7_ok, cValT_ok, trivial⟩ (by kernel_rfl) th_ok mix_ok Go.Proofs.Try.func111 (by kernel_rfl) ?_
  intro x hw hp Λ hC
  have h0 := h x.1 x.2.1 x.2.2.1 hw  
  exact Eq.mpr (by kernel_rfl) h0
theorem cTested7_ok : ConOK Go.Proofs.Try.prog 111 cTested7 := by
  refine cTested7_law ?_
  intro p h l hw
  unfold cTested7_0
  refine ⟨trivial, ?_⟩
  unfold err7t
  by_cases e : err7 p h = 0
  · rw [if_neg (by simp [e]), if_pos e]; exact ⟨trivial, rfl, trivial⟩
  · rw [if_pos (by simpa using e), if_neg e]; exact ⟨rfl, trivial⟩
abbrev cPass7 : Con := { A := (.cons (.sl tL) (.cons (.sl (.sl tEd)) (.cons .int (.cons tTs .nil)))), R := (.cons .bool .nil), pre := fun x => err7 x.1 x.2.1 = 0 ∧ 0 ≤ x.2.2.1 ∧ x.2.2.1 ≤ (x.2.1.length : Int), F := fun x => (okAt x.1 x.2.1 x.2.2.2.1 (Int.toNat x.2.2.1), ()) }
def cPass7_0  (p : (List Lin)) (h : (List (List Edt))) (n : Int) (t : Tst) (y0 : Bool) : Prop :=
  (0 ≤ n ∧ n ≤ (h.length : Int)) ∧ ((okH p.length (h.take (Int.toNat n)) ∧ p.length ≤ 8) ∧ (True ∧ (((errT [(playH p (h.take (Int.toNat n)))] [t] == 0 && passT (playH p (h.take (Int.toNat n))) t)) = y0 ∧ True)))
theorem cPass7_law (h : ∀ (p : (List Lin)) (h : (List (List Edt))) (n : Int) (t : Tst), cPass7.A.wf (p, h, n, t, ()) → (err7 p h = 0 ∧ 0 ≤ n ∧ n ≤ (h.length : Int)) → cPass7_0  p h n t (okAt p h t (Int.toNat n))) : ConOK Go.Proofs.Try.prog 112 cPass7 := by
  refine lawL (Γ := [(104, cFirst), (16, cPasses), (96, cPlay0)]) (Θ := Th) (n := 22) [] ⟨cFirst_ok, cPasses_ok, cPlay0_ok, trivial⟩ (by kernel_rfl) th_ok mix_ok Go.Proofs.Try.func112 (by kernel_rfl) ?_
  intro x hw hp Λ hC
  have h0 := h x.1 x.2.1 x.2.2.1 x.2.2.2.1 hw hp  
  exact Eq.mpr (by kernel_rfl) h0
theorem cPass7_ok : ConOK Go.Proofs.Try.prog 112 cPass7 := by
  refine cPass7_law ?_
  intro p h n t hw hp
  unfold cPass7_0
  obtain ⟨p1, p2, p3⟩ := hp
  obtain ⟨e1, e2, e3, e4⟩ := err7_ok p1
  exact ⟨⟨p2, p3⟩, ⟨fun x hx => e3 x (List.mem_of_mem_take hx), (validP_ok e1).1⟩, trivial, rfl, trivial⟩
abbrev cGreen7 : Con := { A := (.cons (.sl tL) (.cons (.sl (.sl tEd)) (.cons tTs .nil))), R := (.cons (.sl .int) (.cons .int .nil)), pre := fun x => True, F := fun x => ((if err7t x.1 x.2.1 [x.2.2.1] = 0 then greenTo x.1 x.2.1 x.2.2.1 (x.2.1.length + 1) else []), err7t x.1 x.2.1 [x.2.2.1], ()) }
def cGreen7_0 (Λ1 : Int → (List Int) → Prop) (p : (List Lin)) (h : (List (List Edt))) (t : Tst) (y0 : (List Int)) (y1 : Int) : Prop :=
  True ∧ (if ((err7t p h [t]) != (0 : Int)) = true then (([] : List Int) = y0 ∧ (err7t p h [t]) = y1 ∧ True) else (inI ((List.length h : Int) + (1 : Int)) ∧ Λ1 (0 : Int) ([] : List Int)))
def cGreen7_1 (Λ1 : Int → (List Int) → Prop) (p : (List Lin)) (h : (List (List Edt))) (t : Tst) (y0 : (List Int)) (y1 : Int)  (t22_1 : Int) (out_1 : (List Int)) : Prop :=
  if (decide (t22_1 < ((List.length h : Int) + (1 : Int)))) = true then ((err7 p h = 0 ∧ 0 ≤ t22_1 ∧ t22_1 ≤ (h.length : Int)) ∧ (if (okAt p h t (Int.toNat t22_1)) = true then (List.length out_1 + List.length [t22_1] ≤ 4294967296 ∧ (inI (t22_1 + (1 : Int)) ∧ Λ1 (t22_1 + (1 : Int)) (out_1 ++ [t22_1]))) else (inI (t22_1 + (1 : Int)) ∧ Λ1 (t22_1 + (1 : Int)) out_1))) else (out_1 = y0 ∧ (0 : Int) = y1 ∧ True)
theorem cGreen7_law (h : ∀ (p : (List Lin)) (h : (List (List Edt))) (t : Tst), cGreen7.A.wf (p, h, t, ()) → ∀ (Λ1 : Int → (List Int) → Prop), (∀ (t22_1 : Int) (out_1 : (List Int)), cGreen7_1 Λ1 p h t (if err7t p h [t] = 0 then greenTo p h t (h.length + 1) else []) (err7t p h [t]) t22_1 out_1 → Λ1 t22_1 out_1) → cGreen7_0 Λ1 p h t (if err7t p h [t] = 0 then greenTo p h t (h.length + 1) else []) (err7t p h [t])) : ConOK Go.Proofs.Try.prog 46 cGreen7 := by
  refine lawL (Γ := [(112, cPass7), (111, cTested7)]) (Θ := Th) (n := 36) [([1, 1, 1, 0, 1, 0], ⟨[(0, false), (1, false), (5, true), (9, true), (21, true), (22, true)], [(5, false), (9, true)]⟩)] ⟨cPass7_ok, cTested7_ok, trivial⟩ (by kernel_rfl) th_ok mix_ok Go.Proofs.Try.func46 (by kernel_rfl) ?_
  intro x hw hp Λ hC
  have h0 := h x.1 x.2.1 x.2.2.1 hw (fun t22_1 out_1 => Λ [1, 1, 1, 0, 1, 0] ([(0, .d false (.sl tL) x.1), (1, .d false (.sl (.sl tEd)) x.2.1), (5, .ptr 5 0 []), (9, .own 9 0), (21, .d true .int ((List.length x.2.1 : Int) + (1 : Int))), (22, .d true .int t22_1)], [(5, .box false tTs x.2.2.1), (9, .sl true .int out_1)])) (fun t22_1 out_1 hb => hC [1, 1, 1, 0, 1, 0] ([(0, .d false (.sl tL) x.1), (1, .d false (.sl (.sl tEd)) x.2.1), (5, .ptr 5 0 []), (9, .own 9 0), (21, .d true .int ((List.length x.2.1 : Int) + (1 : Int))), (22, .d true .int t22_1)], [(5, .box false tTs x.2.2.1), (9, .sl true .int out_1)]) (Eq.mpr (by kernel_rfl) hb))
  exact Eq.mpr (by kernel_rfl) h0
theorem cGreen7_ok : ConOK Go.Proofs.Try.prog 46 cGreen7 := by
  refine cGreen7_law ?_
  intro p h t hw Λ1 h1
  unfold cGreen7_0
  refine ⟨trivial, ?_⟩
  by_cases e : err7t p h [t] = 0
  · rw [if_neg (by simp [e])]
    obtain ⟨g1, g2⟩ := err7t_ok e
    obtain ⟨e1, e2, e3, e4⟩ := err7_ok g1
    refine ⟨by unfold inI; omega, ?_⟩
    refine upto (n := h.length + 1) (Q := fun i => Λ1 (i : Int) (greenTo p h t i)) ?_ ?_ 0 (Nat.zero_le _)
    · apply h1; unfold cGreen7_1; rw [if_neg (by rw [decide_eq_true_eq]; omega), if_pos e]
      exact ⟨rfl, e.symm, trivial⟩
    · intro i hi ih
      have hle := greenTo_len p h t i
      rw [show greenTo p h t (i + 1) = greenTo p h t i ++ if okAt p h t i = true then [(i : Int)] else [] from rfl] at ih
      apply h1; unfold cGreen7_1; rw [if_pos (by refine decide_eq_true ?_; omega), Int.toNat_natCast]
      refine ⟨⟨g1, by omega, by omega⟩, ?_⟩
      by_cases g : okAt p h t i = true
      · rw [if_pos g] at ih ⊢
        exact ⟨by simp only [List.length_cons, List.length_nil]; omega, inI_succ hi (by omega), ih⟩
      · rw [if_neg g, List.append_nil] at ih
        rw [if_neg g]
        exact ⟨inI_succ hi (by omega), ih⟩
  · rw [if_pos (by simpa using e), if_neg e]
    exact ⟨rfl, rfl, trivial⟩
end Go.Tk
set_option linter.unusedSimpArgs false
set_option linter.unusedVariables false
set_option linter.unnecessarySimpa false
namespace Go.Tk
open Go Go.RowKit

/-- Halving: from a on it is as at the beginning, at b it is not. -/
def bisT (p : List Lin) (h : List (List Edt)) (t : Tst) : Nat → Nat → Nat → Nat
  | 0, a, _ => a
  | f + 1, a, b => if b - a > 1 then (if (okAt p h t ((a + b) / 2) == okAt p h t 0) = true then bisT p h t f ((a + b) / 2) b else bisT p h t f a ((a + b) / 2)) else a
def bisN (p : List Lin) (h : List (List Edt)) (t : Tst) : Int := if err7t p h [t] = 0 then (if (okAt p h t h.length == okAt p h t 0) = true then 0 else (bisT p h t h.length 0 h.length : Int)) else 0
def bisE (p : List Lin) (h : List (List Edt)) (t : Tst) : Int := if err7t p h [t] = 0 then (if (okAt p h t h.length == okAt p h t 0) = true then 8 else 0) else err7t p h [t]

abbrev cBisect7 : Con := { A := (.cons (.sl tL) (.cons (.sl (.sl tEd)) (.cons tTs .nil))), R := (.cons .int (.cons .int .nil)), pre := fun x => True, F := fun x => (bisN x.1 x.2.1 x.2.2.1, bisE x.1 x.2.1 x.2.2.1, ()) }
def cBisect7_0 (Λ1 : Int → Int → Prop) (p : (List Lin)) (h : (List (List Edt))) (t : Tst) (y0 : Int) (y1 : Int) : Prop :=
  True ∧ (if ((err7t p h [t]) != (0 : Int)) = true then ((0 : Int) = y0 ∧ (err7t p h [t]) = y1 ∧ True) else ((err7 p h = 0 ∧ 0 ≤ (0 : Int) ∧ (0 : Int) ≤ (h.length : Int)) ∧ ((err7 p h = 0 ∧ 0 ≤ (List.length h : Int) ∧ (List.length h : Int) ≤ (h.length : Int)) ∧ (if ((okAt p h t (Int.toNat (List.length h : Int))) == (okAt p h t (Int.toNat (0 : Int)))) = true then ((0 : Int) = y0 ∧ (8 : Int) = y1 ∧ True) else Λ1 (0 : Int) (List.length h : Int)))))
def cBisect7_1 (Λ1 : Int → Int → Prop) (p : (List Lin)) (h : (List (List Edt))) (t : Tst) (y0 : Int) (y1 : Int)  (from_1 : Int) (to_1 : Int) : Prop :=
  inI (to_1 - from_1) ∧ (if (decide ((to_1 - from_1) > (1 : Int))) = true then (inI (from_1 + to_1) ∧ (((2 : Int) ≠ 0 ∧ inI (Int.tdiv (from_1 + to_1) (2 : Int))) ∧ ((err7 p h = 0 ∧ 0 ≤ (Int.tdiv (from_1 + to_1) (2 : Int)) ∧ (Int.tdiv (from_1 + to_1) (2 : Int)) ≤ (h.length : Int)) ∧ (if ((okAt p h t (Int.toNat (Int.tdiv (from_1 + to_1) (2 : Int)))) == (okAt p h t (Int.toNat (0 : Int)))) = true then Λ1 (Int.tdiv (from_1 + to_1) (2 : Int)) to_1 else Λ1 from_1 (Int.tdiv (from_1 + to_1) (2 : Int)))))) else (from_1 = y0 ∧ (0 : Int) = y1 ∧ True))
theorem cBisect7_law (h : ∀ (p : (List Lin)) (h : (List (List Edt))) (t : Tst), cBisect7.A.wf (p, h, t, ()) → ∀ (Λ1 : Int → Int → Prop), (∀ (from_1 : Int) (to_1 : Int), cBisect7_1 Λ1 p h t (bisN p h t) (bisE p h t) from_1 to_1 → Λ1 from_1 to_1) → cBisect7_0 Λ1 p h t (bisN p h t) (bisE p h t)) : ConOK Go.Proofs.Try.prog 47 cBisect7 := by
  refine lawL (Γ := [(112, cPass7), (111, cTested7)]) (Θ := Th) (n := 53) [([1, 1, 1, 1, 1, 0, 0], ⟨[(0, false), (1, false), (5, true), (9, true), (10, true), (11, true)], [(5, false)]⟩)] ⟨cPass7_ok, cTested7_ok, trivial⟩ (by kernel_rfl) th_ok mix_ok Go.Proofs.Try.func47 (by kernel_rfl) ?_
  intro x hw hp Λ hC
  have h0 := h x.1 x.2.1 x.2.2.1 hw (fun from_1 to_1 => Λ [1, 1, 1, 1, 1, 0, 0] ([(0, .d false (.sl tL) x.1), (1, .d false (.sl (.sl tEd)) x.2.1), (5, .ptr 5 0 []), (9, .d true .bool (okAt x.1 x.2.1 x.2.2.1 (Int.toNat (0 : Int)))), (10, .d true .int from_1), (11, .d true .int to_1)], [(5, .box false tTs x.2.2.1)])) (fun from_1 to_1 hb => hC [1, 1, 1, 1, 1, 0, 0] ([(0, .d false (.sl tL) x.1), (1, .d false (.sl (.sl tEd)) x.2.1), (5, .ptr 5 0 []), (9, .d true .bool (okAt x.1 x.2.1 x.2.2.1 (Int.toNat (0 : Int)))), (10, .d true .int from_1), (11, .d true .int to_1)], [(5, .box false tTs x.2.2.1)]) (Eq.mpr (by kernel_rfl) hb))
  exact Eq.mpr (by kernel_rfl) h0
theorem cBisect7_ok : ConOK Go.Proofs.Try.prog 47 cBisect7 := by
  refine cBisect7_law ?_
  intro p h t hw Λ1 h1
  unfold cBisect7_0
  refine ⟨trivial, ?_⟩
  unfold bisN bisE
  by_cases e : err7t p h [t] = 0
  · rw [if_neg (by simp [e]), if_pos e, if_pos e]
    obtain ⟨g1, g2⟩ := err7t_ok e
    obtain ⟨e1, e2, e3, e4⟩ := err7_ok g1
    refine ⟨⟨g1, by omega, by omega⟩, ⟨g1, by omega, by omega⟩, ?_⟩
    rw [Int.toNat_natCast]
    show if (okAt p h t h.length == okAt p h t 0) = true then _ else _
    by_cases c : (okAt p h t h.length == okAt p h t 0) = true
    · rw [if_pos c, if_pos c, if_pos c]; exact ⟨rfl, rfl, trivial⟩
    · rw [if_neg c]
      have key : ∀ f a b : Nat, b - a ≤ f → a ≤ b → b ≤ h.length → bisT p h t h.length 0 h.length = bisT p h t f a b → Λ1 (a : Int) (b : Int) := by
        intro f
        induction f with
        | zero =>
          intro a b hf hab hb ey
          apply h1; unfold cBisect7_1
          refine ⟨by unfold inI; omega, ?_⟩
          rw [if_neg (by rw [decide_eq_true_eq]; omega)]
          unfold bisN bisE
          rw [if_pos e, if_neg c, if_pos e, if_neg c, ey]
          exact ⟨rfl, rfl, trivial⟩
        | succ f ih =>
          intro a b hf hab hb ey
          rw [bisT] at ey
          apply h1; unfold cBisect7_1
          refine ⟨by unfold inI; omega, ?_⟩
          by_cases g : b - a > 1
          · rw [if_pos g] at ey
            rw [if_pos (by refine decide_eq_true ?_; omega)]
            have em : Int.tdiv ((a : Int) + b) 2 = (((a + b) / 2 : Nat) : Int) := by rw [Int.tdiv_eq_ediv_of_nonneg (by omega)]; omega
            rw [em, Int.toNat_natCast]
            refine ⟨by unfold inI; omega, ⟨by decide, by unfold inI; omega⟩, ⟨g1, by omega, by omega⟩, ?_⟩
            show if (okAt p h t ((a + b) / 2) == okAt p h t 0) = true then _ else _
            by_cases c2 : (okAt p h t ((a + b) / 2) == okAt p h t 0) = true
            · rw [if_pos c2] at ey ⊢
              exact ih _ _ (by omega) (by omega) hb ey
            · rw [if_neg c2] at ey ⊢
              exact ih _ _ (by omega) (by omega) (by omega) ey
          · rw [if_neg g] at ey
            rw [if_neg (by rw [decide_eq_true_eq]; omega)]
            unfold bisN bisE
            rw [if_pos e, if_neg c, if_pos e, if_neg c, ey]
            exact ⟨rfl, rfl, trivial⟩
      exact key h.length 0 h.length (by omega) (by omega) (Nat.le_refl _) rfl
  · rw [if_pos (by simpa using e), if_neg e, if_neg e]
    exact ⟨rfl, rfl, trivial⟩

end Go.Tk
set_option linter.unusedSimpArgs false
set_option linter.unusedVariables false
set_option linter.unnecessarySimpa false
namespace Go.Tk
open Go Go.RowKit

theorem validX_line {x : List Edt} (h : validX x = 0) : ∀ e ∈ x, validLine e.2.1 = true := by
  unfold validX at h
  split at h
  · omega
  · intro e he
    obtain ⟨i, hi, rfl⟩ := List.getElem_of_mem he
    have g := okTo_at _ (argErr_zero.1 h) i hi
    unfold edOK at g
    have ee : x.getD i tEd.dflt = x[i] := by simp [List.getD_eq_getElem?_getD, hi]
    rw [ee] at g
    simp at g
    exact g.2
theorem errH_valid {n : Nat} : ∀ {h : List (List Edt)}, errH n h = 0 → ∀ x ∈ h, validX x = 0
  | [], _ => fun x hx => by simp at hx
  | x :: hs, e => by
    unfold errH at e
    split at e
    · rename_i hv
      split at e
      · cases e
      · intro y hy
        rcases List.mem_cons.1 hy with rfl | hy
        · exact hv
        · exact errH_valid e y hy
    · rename_i hv; exact absurd e hv
theorem playX_all (x : List Edt) : ∀ p : List Lin, p.all validLine = true → (∀ e ∈ x, validLine e.2.1 = true) → (playX p x).all validLine = true := by
  induction x with
  | nil => intro p hp _; exact hp
  | cons e x ih =>
    intro p hp hx
    refine ih _ ?_ (fun q hq => hx q (List.mem_cons_of_mem _ hq))
    rw [List.all_eq_true] at hp ⊢
    intro l hl
    rcases List.mem_or_eq_of_mem_set hl with g | g
    · exact hp l g
    · rw [g]; exact hx e List.mem_cons_self
theorem playH_all (h : List (List Edt)) : ∀ p : List Lin, p.all validLine = true → (∀ x ∈ h, ∀ e ∈ x, validLine e.2.1 = true) → (playH p h).all validLine = true := by
  induction h with
  | nil => intro p hp _; exact hp
  | cons x h ih =>
    intro p hp hx
    exact ih _ (playX_all x p hp (hx x List.mem_cons_self)) (fun y hy => hx y (List.mem_cons_of_mem _ hy))
theorem playH_valid {p : List Lin} {h : List (List Edt)} (e : err7 p h = 0) (n : Nat) : validP (playH p (h.take n)) = 0 := by
  obtain ⟨e1, e2, _, _⟩ := err7_ok e
  obtain ⟨h8, hall⟩ := validP_ok e1
  have he : errH p.length h = 0 := by
    unfold err7 at e
    rw [if_pos e1, if_neg (by omega)] at e
    exact e
  have g := playH_all (h.take n) p hall (fun x hx => validX_line (errH_valid he x (List.mem_of_mem_take hx)))
  unfold validP
  rw [playH_len, if_neg (by omega), g]; rfl
theorem bisT_spec (p : List Lin) (h : List (List Edt)) (t : Tst) : ∀ f a b, b - a ≤ f → a < b → okAt p h t a = okAt p h t 0 → okAt p h t b ≠ okAt p h t 0 →
    bisT p h t f a b < b ∧ okAt p h t (bisT p h t f a b) = okAt p h t 0 ∧ okAt p h t (bisT p h t f a b + 1) ≠ okAt p h t 0
  | 0, a, b, h0, h1, _, _ => by omega
  | f + 1, a, b, h0, h1, ha, hb => by
    rw [bisT]
    by_cases g : b - a > 1
    · rw [if_pos g]
      by_cases c : (okAt p h t ((a + b) / 2) == okAt p h t 0) = true
      · rw [if_pos c]
        exact bisT_spec p h t f _ b (by omega) (by omega) (eq_of_beq c) hb
      · rw [if_neg c]
        obtain ⟨i1, i2, i3⟩ := bisT_spec p h t f a ((a + b) / 2) (by omega) (by omega) ha (fun q => c (by rw [q]; simp))
        exact ⟨by omega, i2, i3⟩
    · rw [if_neg g]
      have : b = a + 1 := by omega
      subst this
      exact ⟨by omega, ha, hb⟩

end Go.Tk
set_option linter.unusedSimpArgs false
set_option linter.unusedVariables false
set_option linter.unnecessarySimpa false
namespace Go.Tk
open Go Go.RowKit

def pairI (n k : Int) : List Int := List.set (List.set (List.replicate 2 0) 0 n) 1 k
def lossK (p : List Lin) (h : List (List Edt)) (l : List Tst) (n : Nat) : Nat → List (List Int)
  | 0 => []
  | k + 1 => lossK p h l n k ++ if okAt p h (l.getD k tTs.dflt) n = true then (if okAt p h (l.getD k tTs.dflt) (n + 1) = true then [] else [pairI n k]) else []
theorem lossK_len (p : List Lin) (h : List (List Edt)) (l : List Tst) (n : Nat) : ∀ k, (lossK p h l n k).length ≤ k
  | 0 => Nat.le_refl _
  | k + 1 => by
    unfold lossK
    rw [List.length_append]
    have := lossK_len p h l n k
    split
    · split <;> simp <;> omega
    · simp; omega
def lossTo (p : List Lin) (h : List (List Edt)) (l : List Tst) : Nat → List (List Int)
  | 0 => []
  | n + 1 => lossTo p h l n ++ lossK p h l n l.length
theorem lossTo_len (p : List Lin) (h : List (List Edt)) (l : List Tst) : ∀ n, (lossTo p h l n).length ≤ n * l.length
  | 0 => by simp [lossTo]
  | n + 1 => by
    unfold lossTo
    rw [List.length_append, Nat.add_mul, Nat.one_mul]
    have := lossTo_len p h l n
    have := lossK_len p h l n l.length
    omega
theorem lossTo_small {p : List Lin} {h : List (List Edt)} {l : List Tst} (h8 : h.length ≤ 8) (l8 : l.length ≤ 8) {n : Nat} (hn : n ≤ h.length) : (lossTo p h l n).length ≤ 64 := by
  have := lossTo_len p h l n
  have : n * l.length ≤ 8 * 8 := Nat.mul_le_mul (by omega) l8
  omega

abbrev cLosses7 : Con := { A := (.cons (.sl tL) (.cons (.sl (.sl tEd)) (.cons (.sl tTs) .nil))), R := (.cons (.sl (.arr 2 .int)) (.cons .int .nil)), pre := fun x => True, F := fun x => ((if err7t x.1 x.2.1 x.2.2.1 = 0 then lossTo x.1 x.2.1 x.2.2.1 x.2.1.length else []), err7t x.1 x.2.1 x.2.2.1, ()) }
def cLosses7_0 (Λ1 : Int → (List (List Int)) → Prop) (Λ2 : Int → Int → (List (List Int)) → Prop) (p : (List Lin)) (h : (List (List Edt))) (l : (List Tst)) (y0 : (List (List Int))) (y1 : Int) : Prop :=
  True ∧ (if ((err7t p h l) != (0 : Int)) = true then (([] : List (List Int)) = y0 ∧ (err7t p h l) = y1 ∧ True) else Λ1 (0 : Int) ([] : List (List Int)))
def cLosses7_1 (Λ1 : Int → (List (List Int)) → Prop) (Λ2 : Int → Int → (List (List Int)) → Prop) (p : (List Lin)) (h : (List (List Edt))) (l : (List Tst)) (y0 : (List (List Int))) (y1 : Int)  (t22_1 : Int) (out_1 : (List (List Int))) : Prop :=
  if (decide (t22_1 < (List.length h : Int))) = true then Λ2 t22_1 (0 : Int) out_1 else (out_1 = y0 ∧ (0 : Int) = y1 ∧ True)
def cLosses7_2 (Λ1 : Int → (List (List Int)) → Prop) (Λ2 : Int → Int → (List (List Int)) → Prop) (p : (List Lin)) (h : (List (List Edt))) (l : (List Tst)) (y0 : (List (List Int))) (y1 : Int) (t22_1 : Int) (t27_2 : Int) (out_2 : (List (List Int))) : Prop :=
  if (decide (t27_2 < (List.length l : Int))) = true then (idx t27_2 (List.length l : Int) ∧ ((err7 p h = 0 ∧ 0 ≤ t22_1 ∧ t22_1 ≤ (h.length : Int)) ∧ (if (okAt p h (List.getD l (Int.toNat t27_2) tTs.dflt) (Int.toNat t22_1)) = true then (inI (t22_1 + (1 : Int)) ∧ ((err7 p h = 0 ∧ 0 ≤ (t22_1 + (1 : Int)) ∧ (t22_1 + (1 : Int)) ≤ (h.length : Int)) ∧ (True ∧ (if (bif true then (!(okAt p h (List.getD l (Int.toNat t27_2) tTs.dflt) (Int.toNat (t22_1 + (1 : Int))))) else false) = true then (List.length out_2 + List.length [(List.set (List.set (List.replicate 2 0) 0 t22_1) 1 t27_2)] ≤ 4294967296 ∧ (inI (t27_2 + (1 : Int)) ∧ Λ2 t22_1 (t27_2 + (1 : Int)) (out_2 ++ [(List.set (List.set (List.replicate 2 0) 0 t22_1) 1 t27_2)]))) else (inI (t27_2 + (1 : Int)) ∧ Λ2 t22_1 (t27_2 + (1 : Int)) out_2))))) else (false = false ∧ (inI (t27_2 + (1 : Int)) ∧ Λ2 t22_1 (t27_2 + (1 : Int)) out_2))))) else (inI (t22_1 + (1 : Int)) ∧ Λ1 (t22_1 + (1 : Int)) out_2)
theorem cLosses7_law (h : ∀ (p : (List Lin)) (h : (List (List Edt))) (l : (List Tst)), cLosses7.A.wf (p, h, l, ()) → ∀ (Λ1 : Int → (List (List Int)) → Prop) (Λ2 : Int → Int → (List (List Int)) → Prop), (∀ (t22_1 : Int) (out_1 : (List (List Int))), cLosses7_1 Λ1 Λ2 p h l (if err7t p h l = 0 then lossTo p h l h.length else []) (err7t p h l) t22_1 out_1 → Λ1 t22_1 out_1) → (∀ (t22_1 : Int) (t27_2 : Int) (out_2 : (List (List Int))), cLosses7_2 Λ1 Λ2 p h l (if err7t p h l = 0 then lossTo p h l h.length else []) (err7t p h l) t22_1 t27_2 out_2 → Λ2 t22_1 t27_2 out_2) → cLosses7_0 Λ1 Λ2 p h l (if err7t p h l = 0 then lossTo p h l h.length else []) (err7t p h l)) : ConOK Go.Proofs.Try.prog 48 cLosses7 := by
  refine lawL (Γ := [(112, cPass7), (111, cTested7)]) (Θ := Th) (n := 55) [([1, 1, 1, 0, 1, 0], ⟨[(0, false), (1, false), (2, false), (9, true), (21, true), (22, true)], [(9, true)]⟩), ([1, 1, 1, 0, 1, 0, 0, 1, 1, 0, 0, 1, 1, 0], ⟨[(0, false), (1, false), (2, false), (9, true), (10, true), (21, true), (22, true), (25, false), (26, true), (27, true)], [(9, true)]⟩)] ⟨cPass7_ok, cTested7_ok, trivial⟩ (by kernel_rfl) th_ok mix_ok Go.Proofs.Try.func48 (by kernel_rfl) ?_
  intro x hw hp Λ hC
  have h0 := h x.1 x.2.1 x.2.2.1 hw (fun t22_1 out_1 => Λ [1, 1, 1, 0, 1, 0] ([(0, .d false (.sl tL) x.1), (1, .d false (.sl (.sl tEd)) x.2.1), (2, .d false (.sl tTs) x.2.2.1), (9, .own 9 0), (21, .d true .int (List.length x.2.1 : Int)), (22, .d true .int t22_1)], [(9, .sl true (.arr 2 .int) out_1)])) (fun t22_1 t27_2 out_2 => Λ [1, 1, 1, 0, 1, 0, 0, 1, 1, 0, 0, 1, 1, 0] ([(0, .d false (.sl tL) x.1), (1, .d false (.sl (.sl tEd)) x.2.1), (2, .d false (.sl tTs) x.2.2.1), (9, .own 9 0), (10, .d true .int t22_1), (21, .d true .int (List.length x.2.1 : Int)), (22, .d true .int t22_1), (25, .d false (.sl tTs) x.2.2.1), (26, .d true .int (List.length x.2.2.1 : Int)), (27, .d true .int t27_2)], [(9, .sl true (.arr 2 .int) out_2)])) (fun t22_1 out_1 hb => hC [1, 1, 1, 0, 1, 0] ([(0, .d false (.sl tL) x.1), (1, .d false (.sl (.sl tEd)) x.2.1), (2, .d false (.sl tTs) x.2.2.1), (9, .own 9 0), (21, .d true .int (List.length x.2.1 : Int)), (22, .d true .int t22_1)], [(9, .sl true (.arr 2 .int) out_1)]) (Eq.mpr (by kernel_rfl) hb)) (fun t22_1 t27_2 out_2 hb => hC [1, 1, 1, 0, 1, 0, 0, 1, 1, 0, 0, 1, 1, 0] ([(0, .d false (.sl tL) x.1), (1, .d false (.sl (.sl tEd)) x.2.1), (2, .d false (.sl tTs) x.2.2.1), (9, .own 9 0), (10, .d true .int t22_1), (21, .d true .int (List.length x.2.1 : Int)), (22, .d true .int t22_1), (25, .d false (.sl tTs) x.2.2.1), (26, .d true .int (List.length x.2.2.1 : Int)), (27, .d true .int t27_2)], [(9, .sl true (.arr 2 .int) out_2)]) (Eq.mpr (by kernel_rfl) hb))
  exact Eq.mpr (by kernel_rfl) h0
theorem cLosses7_ok : ConOK Go.Proofs.Try.prog 48 cLosses7 := by
  refine cLosses7_law ?_
  intro p h l hw Λ1 Λ2 h1 h2
  unfold cLosses7_0
  refine ⟨trivial, ?_⟩
  by_cases e : err7t p h l = 0
  · rw [if_neg (by simp [e])]
    obtain ⟨g1, g2⟩ := err7t_ok e
    obtain ⟨e1, e2, e3, e4⟩ := err7_ok g1
    have l8 := (validT_ok g2).1
    refine upto (n := h.length) (Q := fun i => Λ1 (i : Int) (lossTo p h l i)) ?_ ?_ 0 (Nat.zero_le _)
    · apply h1; unfold cLosses7_1; rw [if_neg (by simp), if_pos e]
      exact ⟨rfl, e.symm, trivial⟩
    · intro i hi ih
      apply h1; unfold cLosses7_1; rw [if_pos (by simpa using hi)]
      have hsm := lossTo_small (p := p) e2 l8 (n := i) (by omega)
      rw [show lossTo p h l (i + 1) = lossTo p h l i ++ lossK p h l i l.length from rfl] at ih
      have st : Λ2 (i : Int) ((0 : Nat) : Int) (lossTo p h l i ++ lossK p h l i 0) := by
        refine upto (n := l.length) (Q := fun k => Λ2 (i : Int) (k : Int) (lossTo p h l i ++ lossK p h l i k)) ?_ ?_ 0 (Nat.zero_le _)
        · apply h2; unfold cLosses7_2; rw [if_neg (by simp)]
          exact ⟨inI_succ hi (by omega), ih⟩
        · intro k hk ihk
          have hle := lossK_len p h l i k
          rw [show lossK p h l i (k + 1) = lossK p h l i k ++ if okAt p h (l.getD k tTs.dflt) i = true then (if okAt p h (l.getD k tTs.dflt) (i + 1) = true then [] else [pairI i k]) else [] from rfl, ← List.append_assoc] at ihk
          apply h2; unfold cLosses7_2
          rw [if_pos (by simpa using hk), Int.toNat_natCast, Int.toNat_natCast]
          have ei : ((i : Int) + 1).toNat = i + 1 := by omega
          rw [ei]
          refine ⟨idx_nat hk, ⟨g1, by omega, by omega⟩, ?_⟩
          by_cases c1 : okAt p h (l.getD k tTs.dflt) i = true
          · rw [if_pos c1] at ihk ⊢
            refine ⟨inI_succ hi (by omega), ⟨g1, by omega, by omega⟩, trivial, ?_⟩
            by_cases c2 : okAt p h (l.getD k tTs.dflt) (i + 1) = true
            · rw [if_pos c2, List.append_nil] at ihk
              rw [if_neg (by rw [c2]; simp)]
              exact ⟨inI_succ hk (by omega), ihk⟩
            · rw [if_neg c2] at ihk
              rw [if_pos (by rw [Bool.eq_false_iff.2 c2]; rfl)]
              exact ⟨by rw [List.length_append]; simp only [List.length_cons, List.length_nil]; omega, inI_succ hk (by omega), ihk⟩
          · rw [if_neg c1, List.append_nil] at ihk
            rw [if_neg c1]
            exact ⟨rfl, inI_succ hk (by omega), ihk⟩
      rw [show lossK p h l i 0 = [] from rfl, List.append_nil] at st
      exact st
  · rw [if_pos (by simpa using e), if_neg e]
    exact ⟨rfl, rfl, trivial⟩
end Go.Tk
set_option linter.unusedSimpArgs false
set_option linter.unusedVariables false
set_option linter.unnecessarySimpa false
namespace Go.Tk
open Go Go.RowKit

def lossV (p : List Lin) (h : List (List Edt)) (l : List Tst) : List (List Int) := if err7t p h l = 0 then lossTo p h l h.length else []
theorem lossV_len (p : List Lin) (h : List (List Edt)) (l : List Tst) : (lossV p h l).length ≤ 64 := by
  unfold lossV
  split
  · rename_i e
    obtain ⟨g1, g2⟩ := err7t_ok e
    exact lossTo_small (err7_ok g1).2.1 (validT_ok g2).1 (Nat.le_refl _)
  · simp
theorem two_eq {x y : List Int} (hx : x.length = 2) (hy : y.length = 2) : (x.getD 0 0 == y.getD 0 0 && x.getD 1 0 == y.getD 1 0) = true ↔ x = y := by
  match x, y, hx, hy with
  | [a, b], [c, d], _, _ => simp
abbrev cLossesV : Con := { A := (.cons (.sl tL) (.cons (.sl (.sl tEd)) (.cons (.sl tTs) .nil))), R := (.cons (.sl (.arr 2 .int)) (.cons .int .nil)), pre := fun x => True, F := fun x => (lossV x.1 x.2.1 x.2.2.1, err7t x.1 x.2.1 x.2.2.1, ()) }
theorem cLossesV_ok : ConOK Go.Proofs.Try.prog 48 cLossesV := cLosses7_ok
end Go.Tk
/- The engine, part X: walks by hand, with stretches of the run. No conditions. -/
set_option linter.unusedSimpArgs false
set_option linter.unusedVariables false
namespace Go.Tk
open Go Go.RowKit

section
variable {P : Program} {B : Bs} {G : Nat → Gh} {m : Mem} {w w' w0 : World}

/-- As MRel.re, where no one ranges. -/
theorem MRel.re2 (hm : MRel P B G m w w0) (hit : ∀ k g l, m k = some (g, l) → l.isIt = false) {fo kb : Nat → Prop} {tv : Nat → Option Obj} {kv : Nat → Option Value} {ro : Option Nat} {lb : Nat} (hlb : lb ≤ w'.heap.size) (hos : w'.os = w.os) (htp : w'.tape = w.tape) (hout : w'.output = w.output) (hsz : w.heap.size ≤ w'.heap.size)
    (hc : ∀ b, isC w b → ¬ B.fo b → w'.heap[b]? = w.heap[b]?) (hl : ∀ b, b < B.n → w'.heap[b]? = w.heap[b]?) (hfo : ∀ b, b < w.heap.size → fo b → B.fo b) (hp : ∀ b, fo b ∨ kb b → b < w'.heap.size ∧ w'.heap[b]? = tv b)
    (ho : ∀ b, fo b ∨ kb b → b < w.heap.size → (B.fo b ∨ B.kb b) ∨ ∀ k g l, m k = some (g, l) → l.mut = true → ¬ ownL (G k) l b) :
    MRel P (B.wi fo kb tv kv ro lb) G m w' w0 ∧ ∀ {V : V} {v : Value}, ERep P B G m w V v → ERep P (B.wi fo kb tv kv ro lb) G m w' V v := by
  have hdS : ∀ f b, b < w.heap.size → dS B G m f b → dS (B.wi fo kb tv kv ro lb) G m f b := fun f b hlt h => ⟨h.1, h.2.1, fun hT => h.2.2 (hfo b hlt hT)⟩
  have hK : ∀ f, Keep (dS B G m f) w w' := fun f => ⟨hsz, fun b hb hS => hc b hb hS.2.2⟩
  have hcc : ∀ {t : T} {f : Bool} {y : t.den} {cs : List Value}, (reps P t).c w (dS B G m f) y cs → (reps P t).c w' (dS (B.wi fo kb tv kv ro lb) G m f) y cs := fun h => c_keep _ h (hK _) (hdS _)
  have hvv : ∀ {t : T} {y : t.den} {cs : List Value}, (reps P t).v w (dS B G m false) y cs [] → (reps P t).v w' (dS (B.wi fo kb tv kv ro lb) G m false) y cs [] := fun h => v_keep _ h (hK _) (hdS _)
  have hown : ∀ k g l b, m k = some (g, l) → l.mut = true → ownL (G k) l b → w'.heap[b]? = w.heap[b]? := by
    intro k g l b hk hmut e
    refine hc b ?_ fun hT => hm.frn.2 k g l b hk hmut e (.inl hT)
    rcases (hm.loc k g l hk).own_isC hmut e with h | ⟨A, ys, i, rfl⟩ | rfl
    · exact h
    · have := hit k g _ hk; cases this
    · have := hit k g _ hk; cases this
  refine ⟨⟨fun hlo => ?_, Nat.le_trans hm.base hsz, ?_, hm.inj, ⟨hp, ?_⟩, hlb⟩, ?_⟩
  · have := hm.low hlo
    exact ⟨hos.trans this.os, htp.trans this.tape, hout.trans this.output, Nat.le_trans this.size hsz, fun i hi => (hl i hi).trans (this.block i hi)⟩
  · intro k g l hk
    have hl := hm.loc k g l hk
    have hb := hown k g l
    cases l with
    | box f t x =>
      obtain ⟨b, cur, e, h1, h2, h3, h4, h5⟩ := hl
      exact ⟨b, cur, e, h1, h2, h3, (hb b hk rfl ⟨0, h1⟩).trans h4, hcc h5⟩
    | sl f t xs =>
      unfold LRep at hl ⊢
      exact hl.ext (fun b o e => hb b hk rfl ⟨o, e⟩) fun _ _ h' => hcc h'
    | fz f t xs =>
      unfold LRep at hl ⊢
      exact hcc hl
    | fb f t x =>
      obtain ⟨b, h1, h2⟩ := hl
      exact ⟨b, h1, hcc (t := .ref t) h2⟩
    | nl f t xss hh hole =>
      obtain ⟨vs, h1, h2, h3, h4, h5, h6, h7⟩ := hl
      exact ⟨vs, h1.ext (fun b o e => hb b hk rfl (.inl ⟨o, e⟩)) fun _ _ h => h, h2, h3, fun n xs hn hh => (h4 n xs hn hh).ext (fun b o e => hb b hk rfl (.inr ⟨n, o, e⟩)) fun _ _ h' => hcc h', h5, h6, h7⟩
    | mv => trivial
    | rg fr A ys i => trivial
    | it A ys i => have := hit k g _ hk; cases this
    | itx => have := hit k g _ hk; cases this
  · intro k g l b hk hmut e hb
    have hlt := ((hm.loc k g l hk).own_lt hmut e).1
    rcases ho b hb hlt with h | h
    · exact hm.frn.2 k g l b hk hmut e h
    · exact h k g l hk hmut e
  · intro V
    induction V with
    | any => intro v _; trivial
    | d f t x => rintro v ⟨cs, e, h⟩; exact ⟨cs, e, hcc h⟩
    | c v0 => intro v e; exact e
    | ptr k g p => intro v h; exact h
    | own k g => intro v h; exact h
    | sub k g lo hi => intro v h; exact h
    | inn k g h n => intro v h; exact h
    | ipt k g h n p => intro v h; exact h
    | ept f t x =>
      rintro v ⟨b, o, cs, e, h1, h2, h3, h4⟩
      exact ⟨b, o, cs, e, hdS f b h2 h1, Nat.lt_of_lt_of_le h2 hsz, h3.keep (fun hb => hc b hb h1.2.2), hcc h4⟩
    | fnc g t x => rintro v ⟨caps, e, hv⟩; exact ⟨caps, e, hvv hv⟩
    | bnd g t x => rintro v ⟨caps, e, hv⟩; exact ⟨caps, e, hvv hv⟩
    | ub p q => intro v h; exact h
    | yld => intro v h; exact h
    | tup n l ih => rintro v ⟨vs, e, hn, hv⟩; exact ⟨vs, e, hn, fun i u hu => ih i (hv i u hu)⟩

/-- The bounds of a walk by hand: kb: blocks that no one changes, as they are now. -/
abbrev hB (n : Nat) (S : Nat → Prop) (kv : Nat → Option Value) (kb : Nat → Prop) (tv : Nat → Option Obj) : Bs := { n := n, S := S, j := some dJ, kv := kv, kb := kb, tv := tv }

theorem Rel.re {n0 n : Nat} {S : Nat → Prop} {kv kv' : Nat → Option Value} {kb kb' : Nat → Prop} {tv : Nat → Option Obj} {st : St} {a : Act} (hR : Rel P (hB n0 S kv kb tv) w0 n st a w) (hit : ∀ k g l, st.loc k = some (g, l) → l.isIt = false)
    (hos : w'.os = w.os) (htp : w'.tape = w.tape) (hout : w'.output = w.output) (hsz : w.heap.size ≤ w'.heap.size) (hc : ∀ b, isC w b → w'.heap[b]? = w.heap[b]?) (hl : ∀ b, b < n0 → w'.heap[b]? = w.heap[b]?)
    (hkb : ∀ b, kb' b → b < w'.heap.size) (hk2 : ∀ b, kb' b → b < w.heap.size → kb b ∨ ¬ isC w b) (hkp : ∀ t v, kv' t = some v → a.tmps.getD t undef = v) : Rel P (hB n0 S kv' kb' fun b => w'.heap[b]?) w0 n st a w' := by
  obtain ⟨G, hm, he⟩ := hR.ex
  obtain ⟨r1, r2⟩ := hm.re2 (w' := w') hit (fo := fun _ => False) (kb := kb') (tv := fun b => w'.heap[b]?) (kv := kv') (ro := none) (lb := 0) (Nat.zero_le _) hos htp hout hsz (fun b hb _ => hc b hb) hl (fun _ _ h => h) (fun b h => by
    rcases h with h | h
    · exact h.elim
    · exact ⟨hkb b h, rfl⟩) (fun b h hlt => by
    rcases h with h | h
    · exact h.elim
    · rcases hk2 b h hlt with h | h
      · exact .inl (.inr h)
      · refine .inr fun k g l hk hmut e => h ?_
        rcases (hm.loc k g l hk).own_isC hmut e with h | ⟨A, ys, i, rfl⟩ | rfl
        · exact h
        · have := hit k g _ hk; cases this
        · have := hit k g _ hk; cases this)
  have hd := hR.nd.2 rfl
  exact ⟨⟨G, r1, fun t => r2 (he t)⟩, hR.sz, by rw [hd]; exact ⟨Marks.nil _ _, fun _ => rfl⟩, hkp⟩

theorem Rel.kept {n0 n : Nat} {S : Nat → Prop} {kv : Nat → Option Value} {kb : Nat → Prop} {tv : Nat → Option Obj} {st : St} {a : Act} (hR : Rel P (hB n0 S kv kb tv) w0 n st a w) {b : Nat} (hb : kb b) : w.heap[b]? = tv b := by
  obtain ⟨G, hm, he⟩ := hR.ex
  exact (hm.frn.1 b (.inr hb)).2
theorem Rel.kept_lt {n0 n : Nat} {S : Nat → Prop} {kv : Nat → Option Value} {kb : Nat → Prop} {tv : Nat → Option Obj} {st : St} {a : Act} (hR : Rel P (hB n0 S kv kb tv) w0 n st a w) {b : Nat} (hb : kb b) : b < w.heap.size := by
  obtain ⟨G, hm, he⟩ := hR.ex
  exact (hm.frn.1 b (.inr hb)).1
/-- As the world is now. -/
theorem Rel.now {n0 n : Nat} {S : Nat → Prop} {kv : Nat → Option Value} {kb : Nat → Prop} {tv : Nat → Option Obj} {st : St} {a : Act} (hR : Rel P (hB n0 S kv kb tv) w0 n st a w) (hit : ∀ k g l, st.loc k = some (g, l) → l.isIt = false) : Rel P (hB n0 S kv kb fun b => w.heap[b]?) w0 n st a w :=
  hR.re hit rfl rfl rfl (Nat.le_refl _) (fun _ _ => rfl) (fun _ _ => rfl) (fun _ h => hR.kept_lt h) (fun _ h _ => .inl h) hR.kp
theorem Rel.low {n0 n : Nat} {S : Nat → Prop} {kv : Nat → Option Value} {kb : Nat → Prop} {tv : Nat → Option Obj} {st : St} {a : Act} (hR : Rel P (hB n0 S kv kb tv) w0 n st a w) : Below n0 w0 w := by
  obtain ⟨G, hm, he⟩ := hR.ex
  exact hm.low rfl

/-- Other temporaries. -/
theorem rel_env {n0 n : Nat} {S : Nat → Prop} {kv kv' : Nat → Option Value} {kb : Nat → Prop} {tv : Nat → Option Obj} {E E' : List (Nat × V)} {M : List (Nat × Tk.L)} {a a' : Act} (hR : Rel P (hB n0 S kv kb tv) w0 n (mkSt (E, M)) a w) (hsz : a'.tmps.size = n) (hd : a'.defers = [])
    (hkp : ∀ t v, kv' t = some v → a'.tmps.getD t undef = v)
    (hE : ∀ t U, lk E' t = some U → (lk E t = some U ∧ a'.tmps.getD t undef = a.tmps.getD t undef) ∨ ∀ G, MRel P (hB n0 S kv' kb tv) G (mkLoc M) w w0 → ERep P (hB n0 S kv' kb tv) G (mkLoc M) w U (a'.tmps.getD t undef)) :
    Rel P (hB n0 S kv' kb tv) w0 n (mkSt (E', M)) a' w := by
  obtain ⟨G, hm, he⟩ := hR.ex
  have hm' : MRel P (hB n0 S kv' kb tv) G (mkLoc M) w w0 := ⟨hm.low, hm.base, fun k g l hk => by
    have := hm.loc k g l hk
    cases l <;> exact this, hm.inj, hm.frn, hm.lbd⟩
  refine ⟨⟨G, hm', fun t => ?_⟩, hsz, by rw [hd]; exact ⟨Marks.nil _ _, fun _ => rfl⟩, hkp⟩
  show ERep P _ G (mkLoc M) w (match lk E' t with | some v => v | none => .any) _
  cases hl : lk E' t with
  | none => trivial
  | some U =>
    rcases hE t U hl with ⟨h1, h2⟩ | h
    · have h3 := he t
      have h4 : (mkSt (E, M)).env t = U := by
        show (match lk E t with | some v => v | none => .any) = U
        rw [h1]
      rw [h4] at h3
      rw [h2]
      have key : ∀ (U : Tk.V) (v : Value), ERep P (hB n0 S kv kb tv) G (mkLoc M) w U v → ERep P (hB n0 S kv' kb tv) G (mkLoc M) w U v := by
        intro U
        induction U with
        | tup n l ih => rintro v ⟨vs, e, hn, hv⟩; exact ⟨vs, e, hn, fun i u hu => ih i _ (hv i u hu)⟩
        | _ => intro v h; exact h
      exact key U _ h3
    · exact h G hm'

/-- A new variable, that is written to no more. -/
theorem rel_box {n0 n : Nat} {S : Nat → Prop} {kv : Nat → Option Value} {kb : Nat → Prop} {tv : Nat → Option Obj} {E E' : List (Nat × Tk.V)} {M : List (Nat × Tk.L)} {a a' : Act} (hR : Rel P (hB n0 S kv kb tv) w0 n (mkSt (E, M)) a w) (hit : ∀ k g l, (mkSt (E, M)).loc k = some (g, l) → l.isIt = false)
    {d : Nat} {t : T} {x : t.den} {cs : List Value} {ty : TypeId} (hcs : ∀ W S', (reps P t).c W S' x cs) (hsz : a'.tmps.size = n) (hd : a'.defers = []) (hkp : ∀ t v, kv t = some v → a'.tmps.getD t undef = v) (hdv : a'.tmps.getD d undef = .pointer (some ⟨w.heap.size, 0, none⟩))
    (hE : ∀ t' U, lk E' t' = some U → (lk E t' = some U ∧ a'.tmps.getD t' undef = a.tmps.getD t' undef) ∨ (t' = d ∧ U = .ept true t x) ∨ ∀ B G m w, ERep P B G m w U (a'.tmps.getD t' undef)) :
    Rel P (hB n0 S kv kb fun b => (w.alloc (.cells cs.toArray ty)).heap[b]?) w0 n (mkSt (E', M)) a' (w.alloc (.cells cs.toArray ty)) := by
  have hkv := hR.kp
  obtain ⟨G, hm, he⟩ := hR.ex
  have hbel : Below w.heap.size w (w.alloc (.cells cs.toArray ty)) := (Below.refl _ w).alloc (Nat.le_refl _) _
  obtain ⟨r1, r2⟩ := hm.re2 (w' := w.alloc (.cells cs.toArray ty)) hit (fo := fun _ => False) (kb := kb) (tv := fun b => (w.alloc (.cells cs.toArray ty)).heap[b]?) (kv := kv) (ro := none) (lb := 0) (Nat.zero_le _) rfl rfl rfl (by simp) (fun b hb _ => hbel.block b hb.lt) (fun b hb => hbel.block b (Nat.lt_of_lt_of_le hb hm.base)) (fun _ _ h => h) (fun b h => by
    rcases h with h | h
    · exact h.elim
    · have := (hm.frn.1 b (.inr h)).1
      exact ⟨by simp; omega, rfl⟩) (fun b h hlt => by
    rcases h with h | h
    · exact h.elim
    · exact .inl (.inr h))
  refine ⟨⟨G, r1, fun t' => ?_⟩, hsz, by rw [hd]; exact ⟨Marks.nil _ _, fun _ => rfl⟩, hkp⟩
  show ERep P _ G (mkLoc M) _ (match lk E' t' with | some v => v | none => .any) _
  cases hl : lk E' t' with
  | none => trivial
  | some U =>
    rcases hE t' U hl with ⟨h1, h2⟩ | ⟨rfl, rfl⟩ | h
    · have h3 := he t'
      have h4 : (mkSt (E, M)).env t' = U := by
        show (match lk E t' with | some v => v | none => .any) = U
        rw [h1]
      rw [h4] at h3
      rw [h2]
      exact r2 h3
    · rw [hdv]
      refine ⟨w.heap.size, 0, cs, rfl, ⟨⟨fun _ => hm.base, .inl hm.base⟩, fun k g l hk hmut e => ?_, fun h => h⟩, by simp, ?_, hcs _ _⟩
      · have := ((hm.loc k g l hk).own_lt hmut e).1
        omega
      · intro j v hj
        simp only [World.cell?, heap_alloc_new]
        simpa using hj
    · exact h _ _ _ _

/-- Behind calls and new variables: what was known, and what lies in new blocks. -/
theorem rel_new {n0 n : Nat} {S : Nat → Prop} {kv kv' : Nat → Option Value} {kb : Nat → Prop} {tv : Nat → Option Obj} {E E' : List (Nat × Tk.V)} {M : List (Nat × Tk.L)} {a a' : Act} (hR : Rel P (hB n0 S kv kb tv) w0 n (mkSt (E, M)) a w) (hit : ∀ k g l, (mkSt (E, M)).loc k = some (g, l) → l.isIt = false)
    (hbel : Below w.heap.size w w') (hsz : a'.tmps.size = n) (hd : a'.defers = []) (hkp : ∀ t v, kv' t = some v → a'.tmps.getD t undef = v)
    (hE : ∀ t U, lk E' t = some U → (∃ t2, lk E t2 = some U ∧ a'.tmps.getD t undef = a.tmps.getD t2 undef) ∨ ∀ G, (∀ b, w.heap.size ≤ b → dS (hB n0 S kv' kb fun b => w'.heap[b]?) G (mkLoc M) true b) → ERep P (hB n0 S kv' kb fun b => w'.heap[b]?) G (mkLoc M) w' U (a'.tmps.getD t undef)) :
    Rel P (hB n0 S kv' kb fun b => w'.heap[b]?) w0 n (mkSt (E', M)) a' w' := by
  obtain ⟨G, hm, he⟩ := hR.ex
  obtain ⟨r1, r2⟩ := hm.re2 (w' := w') hit (fo := fun _ => False) (kb := kb) (tv := fun b => w'.heap[b]?) (kv := kv') (ro := none) (lb := 0) (Nat.zero_le _) hbel.os hbel.tape hbel.output hbel.size (fun b hb _ => hbel.block b hb.lt) (fun b hb => hbel.block b (Nat.lt_of_lt_of_le hb hm.base)) (fun _ _ h => h) (fun b h => by
    rcases h with h | h
    · exact h.elim
    · exact ⟨Nat.lt_of_lt_of_le (hm.frn.1 b (.inr h)).1 hbel.size, rfl⟩) (fun b h hlt => by
    rcases h with h | h
    · exact h.elim
    · exact .inl (.inr h))
  refine ⟨⟨G, r1, fun t' => ?_⟩, hsz, by rw [hd]; exact ⟨Marks.nil _ _, fun _ => rfl⟩, hkp⟩
  show ERep P _ G (mkLoc M) _ (match lk E' t' with | some v => v | none => .any) _
  cases hl : lk E' t' with
  | none => trivial
  | some U =>
    rcases hE t' U hl with ⟨t2, h1, h2⟩ | h
    · have h3 := he t2
      have h4 : (mkSt (E, M)).env t2 = U := by
        show (match lk E t2 with | some v => v | none => .any) = U
        rw [h1]
      rw [h4] at h3
      rw [h2]
      exact r2 h3
    · refine h G fun b hb => ⟨⟨fun _ => Nat.le_trans hm.base hb, .inl (Nat.le_trans hm.base hb)⟩, fun k g l hk hmut e => ?_, fun h => h⟩
      have := ((hm.loc k g l hk).own_lt hmut e).1
      omega
/-- Nothing is known. -/
theorem rel_zero {n : Nat} {S : Nat → Prop} {kv : Nat → Option Value} {kb : Nat → Prop} {a : Act} (hsz : a.tmps.size = n) (hd : a.defers = []) (hkp : ∀ t v, kv t = some v → a.tmps.getD t undef = v) (hkb : ∀ b, kb b → b < w.heap.size) :
    Rel P (hB w.heap.size S kv kb fun b => w.heap[b]?) w n (mkSt ([], [])) a w :=
  ⟨⟨fun _ => gh undef none, ⟨fun _ => Below.refl _ _, Nat.le_refl _, fun k g l hk => (by cases hk), fun k k' g g' l l' b hk => (by cases hk), ⟨fun b h => by
    rcases h with h | h
    · exact h.elim
    · exact ⟨hkb b h, rfl⟩, fun k g l b hk => (by cases hk)⟩, Nat.zero_le _⟩, fun t => trivial⟩, hsz, by rw [hd]; exact ⟨Marks.nil _ _, fun _ => rfl⟩, hkp⟩
/-- A datum's value. -/
theorem rel_d {n0 n : Nat} {S : Nat → Prop} {kv : Nat → Option Value} {kb : Nat → Prop} {tv : Nat → Option Obj} {E : List (Nat × Tk.V)} {M : List (Nat × Tk.L)} {a : Act} (hR : Rel P (hB n0 S kv kb tv) w0 n (mkSt (E, M)) a w) {d : Nat} {f : Bool} {t : T} {x : t.den} (h : lk E d = some (.d f t x)) :
    ∃ (cs : List Value) (S' : Nat → Prop), a.tmps.getD d undef = mkV t cs ∧ (reps P t).c w S' x cs := by
  obtain ⟨G, hm, he⟩ := hR.ex
  have h3 := he d
  have h4 : (mkSt (E, M)).env d = .d f t x := by
    show (match lk E d with | some v => v | none => .any) = _
    rw [h]
  rw [h4] at h3
  obtain ⟨cs, e, hc⟩ := h3
  exact ⟨cs, _, e, hc⟩
theorem rel_int {n0 n : Nat} {S : Nat → Prop} {kv : Nat → Option Value} {kb : Nat → Prop} {tv : Nat → Option Obj} {E : List (Nat × Tk.V)} {M : List (Nat × Tk.L)} {a : Act} (hR : Rel P (hB n0 S kv kb tv) w0 n (mkSt (E, M)) a w) {d : Nat} {f : Bool} {x : Int} (h : lk E d = some (.d f .int x)) : a.tmps.getD d undef = .int .i64 x ∧ inI x := by
  obtain ⟨cs, S', e, hc, hi⟩ := rel_d hR h
  subst hc
  exact ⟨e, hi⟩
theorem rel_bool {n0 n : Nat} {S : Nat → Prop} {kv : Nat → Option Value} {kb : Nat → Prop} {tv : Nat → Option Obj} {E : List (Nat × Tk.V)} {M : List (Nat × Tk.L)} {a : Act} (hR : Rel P (hB n0 S kv kb tv) w0 n (mkSt (E, M)) a w) {d : Nat} {f : Bool} {x : Bool} (h : lk E d = some (.d f .bool x)) : a.eval (.tmp d) = .bool x := by
  obtain ⟨cs, S', e, hc⟩ := rel_d hR h
  have hc : cs = [.bool x] := hc
  subst hc
  exact e

/-- The beginning of a function. -/
theorem rel_start {A : T} {x : A.den} {vs : List Value} {S : Nat → Prop} {n : Nat} (hA : (isTup A && Nat.ble (arity A) n) = true) (hv : (reps P A).v w S x vs []) :
    Rel P (hB w.heap.size S (fun _ => none) (fun _ => False) fun b => w.heap[b]?) w n (mkSt (argE A x 0, [])) { tmps := vs.toArray ++ Array.replicate (n - vs.toArray.size) undef, defers := [] } w := by
  rw [Bool.and_eq_true] at hA
  have hle := Nat.le_of_ble_eq_true hA.2
  let G : Nat → Gh := fun _ => gh undef none
  obtain ⟨i1, i2, i3⟩ := argE_ok (S' := dS (hB w.heap.size S (fun _ => none) (fun _ => False) fun b => w.heap[b]?) G (mkLoc []) false) (fun b hb => ⟨⟨fun e => (by cases e), .inr hb⟩, fun k g l hk => by simp [mkLoc, lk] at hk, fun h => h⟩) A x vs 0 hA.1 hv
  refine ⟨⟨G, ⟨fun _ => Below.refl _ _, Nat.le_refl _, fun k g l hk => by simp [mkSt, mkLoc, lk] at hk, fun k k' g g' l l' b hk => by simp [mkSt, mkLoc, lk] at hk, ⟨fun b h => by rcases h with h | h <;> exact h.elim, fun k g l b hk => by simp [mkSt, mkLoc, lk] at hk⟩, Nat.zero_le _⟩, fun t => ?_⟩, by simp; omega, ⟨Marks.nil _ _, fun _ => rfl⟩, fun t v e => by cases e⟩
  show ERep P _ G (mkLoc []) w (match lk (argE A x 0) t with | some v => v | none => .any) _
  split
  · rename_i V e
    obtain ⟨_, v, f', a, y, cs, j1, rfl, rfl, j4, rfl⟩ := i3 t V e
    refine ⟨cs, ?_, j4⟩
    have hlt : t < vs.length := (List.getElem?_eq_some_iff.1 j1).1
    have j1 : vs[t]? = some (mkV a cs) := j1
    have e1 : (vs.toArray ++ Array.replicate (n - vs.toArray.size) undef)[t]? = some (mkV a cs) := by
      rw [Array.getElem?_append_left (by simpa using hlt)]
      simpa using j1
    simp only [Array.getD_eq_getD_getElem?, e1, Option.getD_some]
  · trivial

/-- The run from here to a label; what follows is by hand. -/
theorem eng_to {cx : Cx} (hk : Cok P cx) (hmix : P.follows .mixedOrders = true) (hx : cx.X.itf = none) (hpn : cx.X.pan = none) {code : Code} {n0 : Nat} {S : Nat → Prop} {kv : Nat → Option Value} {kb : Nat → Prop} {tv : Nat → Option Obj} {st : St} {a : Act} {Q : Exit → Act → World → Prop} (ly : List (Pth × Lay))
    (hR : Rel P (hB n0 S kv kb tv) w0 cx.n st a w) (hok : (okC cx.n code && noRF code) = true) (hkv : ∀ t ∈ wrs code, kv t = none)
    (h : ∀ Λ : Pth → Lst → Prop, Λ = Sem P (hB n0 S kv kb tv) w0 cx.n code Q → Wl cx (LyL ly) Λ code (fun _ _ => False) st) : code.wpIn (Fw none) 0 P Q a w := by
  rw [Bool.and_eq_true] at hok
  have := (sound hk hmix code (hB n0 S kv kb tv) w0 (LyL ly) (fun _ _ => False) Q hok.1 ⟨hkv, .inl hok.2, fun fr e => (by rw [hx] at e; cases e), .inl hpn⟩ (fun e st a w h => h.elim) fun p hp => by rw [hpn] at hp; cases hp).1 st a w (h _ rfl) hR
  exact this
/-- The run through a stretch of code without loops. -/
theorem eng_thru {cx : Cx} (hk : Cok P cx) (hmix : P.follows .mixedOrders = true) (hx : cx.X.itf = none) (hpn : cx.X.pan = none) {code : Code} {n0 : Nat} {S : Nat → Prop} {kv : Nat → Option Value} {kb : Nat → Prop} {tv : Nat → Option Obj} {st : St} {a : Act} {Q : Exit → Act → World → Prop} (ly : Lay) (x : Lst)
    (hR : Rel P (hB n0 S kv kb tv) w0 cx.n st a w) (hok : (okC cx.n code && noRF code) = true) (hkv : ∀ t ∈ wrs code, kv t = none)
    (h : Wl cx (fun _ => none) (fun _ _ => False) code (fun e st => match e with | .normal => canK ly (fun y => y = x) st | _ => False) st) (hQ : ∀ a w, Rel P (hB n0 S kv kb tv) w0 cx.n (mkSt x) a w → Q .normal a w) : code.wpIn (Fw none) 0 P Q a w := by
  rw [Bool.and_eq_true] at hok
  have hs := sound hk hmix code (hB n0 S kv kb tv) w0 (fun _ => none) (fun e st => match e with | .normal => canK ly (fun y => y = x) st | _ => False) Q hok.1 ⟨hkv, .inl hok.2, fun fr e => (by rw [hx] at e; cases e), .inl hpn⟩ (fun e st a w h hR => by
    cases e <;> first | exact h.elim | skip
    obtain ⟨y, rfl, hR2⟩ := canK_ok h hR
    exact hQ a w hR2) fun p hp => by rw [hpn] at hp; cases hp
  refine hs.1 st a w ?_ hR
  exact Wl_mono _ _ _ _ _ _ _ (fun _ _ h => h.elim) (fun _ _ h => h) h

/-- An own slice, for a result. -/
theorem rel_own {n0 n : Nat} {S : Nat → Prop} {kv : Nat → Option Value} {kb : Nat → Prop} {tv : Nat → Option Obj} {E : List (Nat × V)} {M : List (Nat × Tk.L)} {a : Act} (hR : Rel P (hB n0 S kv kb tv) w0 n (mkSt (E, M)) a w) {d k : Nat} {t : T} {xs : List t.den}
    (hE : lk E d = some (.own k 0)) (hM : lk M k = some (.sl true t xs)) : ∃ ob : Option (Nat × Nat), repOwn ((reps P t).c w fun b => n0 ≤ b ∧ ¬ b ∈ (ob.map (·.1)).toList) t.csize w (fun _ => True) xs (a.tmps.getD d undef) ob ∧ ∀ b ∈ (ob.map (·.1)).toList, n0 ≤ b := by
  obtain ⟨G, hm, he⟩ := hR.ex
  have hl : mkLoc M k = some (0, .sl true t xs) := by
    show (match lk M k with | some l => some (0, l) | none => none) = _
    rw [hM]
  have h1 := he d
  have h2 : (mkSt (E, M)).env d = .own k 0 := by
    show (match lk E d with | some v => v | none => .any) = _
    rw [hE]
  rw [h2] at h1
  obtain ⟨g', l, q1, _, q2⟩ := h1
  have q1 : mkLoc M k = some (g', l) := q1
  rw [hl] at q1
  cases q1
  have h3 : a.tmps.getD d undef = (G k).hdr := q2 rfl
  have h4 : repOwn ((reps P t).c w (dS (hB n0 S kv kb tv) G (mkLoc M) true)) t.csize w (fun b => n0 ≤ b) xs (G k).hdr (G k).blk := hm.loc k 0 _ hl
  rw [h3]
  refine ⟨(G k).blk, ?_, ?_⟩
  · rcases h4 with h4 | ⟨b, off, cap, cur, e, g1, g2, g3, g4, g5, g6, g7, g8⟩
    · exact .inl h4
    · refine .inr ⟨b, off, cap, cur, e, g1, g2, trivial, g4, g5, g6, g7, repL_mono (fun _ _ h => c_mono _ h fun b' _ hb => ⟨hb.1.1 rfl, fun hin => ?_⟩) _ _ g8⟩
      rw [g1] at hin
      simp at hin
      exact hb.2.1 k 0 _ hl rfl ⟨off, by rw [g1, hin]⟩
  · intro b hb
    rcases h4 with ⟨_, _, h4⟩ | ⟨b', off, cap, cur, e, g1, g2, g3, g4, g5, g6, g7, g8⟩
    · rw [h4] at hb; simp at hb
    · rw [g1] at hb
      simp at hb
      rw [hb]; exact g3

/-! ### A region's operations, in their order -/
variable {ops : Array Oper} {Q : Exit → Act → World → Prop} {rest : List Nat} {a : Act}
theorem sp_val {k : Nat} {o : Oper} {v : Value} {w1 : World} (ho : ops[k]? = some o) (hg : o.guard = none) (hr : (execOp a.eval o).run P w = .ok (.value v) w1) (h : wpOpsIn (Fw none) 0 P ops Q rest (a.put o.dst v) w1) :
    wpOpsIn (Fw none) 0 P ops Q (k :: rest) a w := by
  rw [wpOpsIn_cons]
  have hw : Region.wanted o (yielded ops a.tmps) = true := by unfold Region.wanted; rw [hg]
  unfold wpOpIn
  rw [ho]
  simp only [hw, if_true]
  refine ⟨fun _ _ => trivial, ?_⟩
  show Oper.uponIn (Fw none) 0 P o a _ Q ((o.semAt none a.eval).run P w)
  rw [Oper.semAt_none, hr]
  exact upon_in h
theorem sp_call {k : Nat} {o : Oper} {f : FuncId} {args : Array Value} (ho : ops[k]? = some o) (hg : o.guard = none) (hr : (execOp a.eval o).run P w = .ok (.enter f args) w)
    (h : Calls P f args w fun e w1 => ∃ v, e = .returned v ∧ wpOpsIn (Fw none) 0 P ops Q rest (a.put o.dst v) w1) : wpOpsIn (Fw none) 0 P ops Q (k :: rest) a w := by
  rw [wpOpsIn_cons]
  have hw : Region.wanted o (yielded ops a.tmps) = true := by unfold Region.wanted; rw [hg]
  unfold wpOpIn
  rw [ho]
  simp only [hw, if_true]
  refine ⟨fun _ _ => trivial, ?_⟩
  show Oper.uponIn (Fw none) 0 P o a _ Q ((o.semAt none a.eval).run P w)
  rw [Oper.semAt_none, hr]
  refine upon_in (r := .ok (.enter f args) w) ?_
  refine Calls.mono h ?_
  rintro e w1 ⟨v, rfl, h⟩
  exact h

/-- A stretch of a region by the run. -/
theorem stretch_wp {cx : Cx} (hk : Cok P cx) {st : St} (hR : Rel P B w0 cx.n st a w) (hro : B.ro = none) (k c : Nat) (hkv : ∀ o ∈ (ops.toList.drop k).take c, ∀ d, o.dst = some d → B.kv d = none) (hd : dstsOK cx.n ((ops.toList.drop k).take c) = true) (hlen : ((ops.toList.drop k).take c).length = c)
    {Φ : St → Prop} (h : runG cx ops.toList ((ops.toList.drop k).take c) st [] fun st _ => Φ st) (hQ : ∀ st a w, Φ st → Rel P B w0 cx.n st a w → wpOpsIn (Fw none) 0 P ops Q rest a w) : wpOpsIn (Fw none) 0 P ops Q (List.range' k c ++ rest) a w := by
  obtain ⟨τ, _, h⟩ := runL_lex (R := Real P B w0 cx.n) (Pd := fun o => ∀ d, o.dst = some d → B.kv d = none) (fun st o e tu hp => real_yop hk hp) _ st [] 0 (fun _ => ([], [])) hkv ⟨a, w, hR⟩ hd rfl (runL_of_runG _ _ _ _ h)
  have key : ∀ (l : List Oper) (k : Nat) (st : St) (a : Act) (w : World), (∀ o ∈ l, ∀ d, o.dst = some d → B.kv d = none) → (∀ j, j < l.length → l[j]? = ops.toList[k + j]?) → Rel P B w0 cx.n st a w → lexA cx ops.toList τ (fun st => Φ st) l (0 + (k - k)) st ∨ True → True := fun _ _ _ _ _ _ _ _ _ => trivial
  clear key
  have key : ∀ (l : List Oper) (k i : Nat) (st : St) (a : Act) (w : World), (∀ o ∈ l, ∀ d, o.dst = some d → B.kv d = none) → (∀ j, j < l.length → l[j]? = ops.toList[k + j]?) → Rel P B w0 cx.n st a w → lexA cx ops.toList τ (fun st => Φ st) l i st → wpOpsIn (Fw none) 0 P ops Q (List.range' k l.length ++ rest) a w := by
    intro l
    induction l with
    | nil => intro k i st a w _ _ hR h; exact hQ _ _ _ h hR
    | cons o l ih =>
      intro k i st a w hkv hl hR h
      obtain ⟨e, hy, h⟩ := h
      rw [List.length_cons, List.range'_succ, List.cons_append, wpOpsIn_cons]
      have ho : ops.toList[k]? = some o := by simpa using (hl 0 (by simp)).symm
      have ho2 : ops.toList.toArray[k]? = some o := by simpa using ho
      have := yop_wp hk (Q := Q) (hkv o (by simp)) hR hy ho2 (K := fun a w => wpOpsIn (Fw none) 0 P ops Q (List.range' (k + 1) l.length ++ rest) a w) fun a' w' hR' => ih (k + 1) (i + 1) _ _ _ (fun o ho => hkv o (by simp [ho])) (fun j hj => by
        have := hl (j + 1) (by simp; omega)
        simpa [Nat.add_assoc, Nat.add_comm 1 j] using this) hR' h
      rw [hro] at this
      simpa using this
  have := key ((ops.toList.drop k).take c) k 0 st a w hkv (fun j hj => by
    rw [List.getElem?_take, List.getElem?_drop]
    rw [hlen] at hj
    rw [if_pos hj]) hR h
  rw [hlen] at this
  exact this

/-! ### Loops -/
theorem loop_upX {F : Fence} {c : Code} {n : Nat} (A : Nat → Act → World → Prop) (last : ∀ a W, A n a W → c.wpIn F 0 P (Exit.then (fun _ _ => False) Q) a W)
    (step : ∀ m a W, m < n → A m a W → c.wpIn F 0 P (Exit.then (A (m + 1)) Q) a W) : ∀ m, m ≤ n → ∀ a W, A m a W → LoopAt F P c Q a W := by
  have key : ∀ d m, m + d = n → ∀ a W, A m a W → LoopAt F P c Q a W := by
    intro d
    induction d with
    | zero =>
      intro m hm a W h
      obtain rfl : m = n := by omega
      refine loopAt_round (wpIn_mono (last a W h) fun e a' W' he => ?_)
      cases e <;> first | exact he.elim | exact he
    | succ d ih =>
      intro m hm a W h
      refine loopAt_round (wpIn_mono (step m a W (by omega) h) fun e a' W' he => ?_)
      cases e <;> first | exact ih (m + 1) (by omega) _ _ he | exact he
  exact fun m hm a W h => key (n - m) m (by omega) a W h
theorem loop_downX {F : Fence} {c : Code} (A : Nat → Act → World → Prop) (step : ∀ m a W, A m a W → c.wpIn F 0 P (Exit.then (fun a W => ∃ m', m' < m ∧ A m' a W) Q) a W) : ∀ m a W, A m a W → LoopAt F P c Q a W := by
  intro m
  induction m using Nat.strongRecOn with
  | ind m ih =>
    intro a W h
    refine loopAt_round (wpIn_mono (step m a W h) fun e a' W' he => ?_)
    cases e <;> first | (obtain ⟨m', h1, h2⟩ := he; exact ih m' h1 _ _ h2) | exact he
/-! ### Regions, one operation after another, by hand -/
def ql (P : Program) : List Oper → (Act → World → Prop) → (Exit → Act → World → Prop) → Act → World → Prop
  | [], K, _, a, w => K a w
  | o :: l, K, Q, a, w => o.upon P a (fun a' w' => ql P l K Q a' w') Q ((execOp a.eval o).run P w)
theorem ql_mono {P : Program} {o : Oper} {a : Act} {K K' : Act → World → Prop} {Q : Exit → Act → World → Prop} {r : Result Next} (h : ∀ a w, K a w → K' a w) (hr : o.upon P a K Q r) : o.upon P a K' Q r := by
  cases r with
  | halt x w => cases x <;> exact hr
  | ok x w =>
    cases x <;> simp only [Oper.upon] at hr ⊢
    case value v => exact h _ _ hr
    case skip => exact h _ _ hr
    case defer d => exact h _ _ hr
    case enter f args =>
      refine hr.mono ?_
      intro e w' he
      cases e with
      | returned v => exact h _ _ he
      | panicked c => exact he
      | outgrown => exact he
    case row row args =>
      intro c cs
      obtain ⟨v, w', hv, hs⟩ := hr c cs
      exact ⟨v, w', h _ _ hv, hs⟩
theorem ql_ops {P : Program} {ops : List Oper} {Q : Exit → Act → World → Prop} : ∀ (l : List Oper) (k : Nat) (a : Act) (w : World), (∀ j, l[j]? = ops[k + j]?) → (∀ o ∈ l, o.guard = none) → ql P l (Q .normal) Q a w →
    wpOpsIn (Fw none) 0 P ops.toArray Q (List.range' k l.length) a w
  | [], k, a, w, _, _, h => by
    have h : Q .normal a w := h
    simpa [wpOpsIn] using h
  | o :: l, k, a, w, hl, hg, h => by
    rw [List.length_cons, List.range'_succ, wpOpsIn_cons]
    have ho : ops[k]? = some o := by simpa using (hl 0).symm
    have hl' : ∀ j, l[j]? = ops[k + 1 + j]? := fun j => by have := hl (j + 1); simpa [Nat.add_assoc, Nat.add_comm 1 j] using this
    have hw : Region.wanted o (yielded ops.toArray a.tmps) = true := by unfold Region.wanted; rw [hg o (by simp)]
    unfold wpOpIn
    rw [show ops.toArray[k]? = some o by simpa using ho]
    simp only [hw, if_true]
    refine ⟨fun _ _ => trivial, ?_⟩
    show Oper.uponIn (Fw none) 0 P o a _ Q ((o.semAt none a.eval).run P w)
    rw [Oper.semAt_none]
    exact upon_in (ql_mono (fun a' w' h' => ql_ops l (k + 1) a' w' hl' (fun q hq => hg q (by simp [hq])) h') h)
theorem ql_region {P : Program} {ops : Array Oper} {id : Nat} {Q : Exit → Act → World → Prop} {a : Act} {w : World} (hg : (ops.toList.all fun o => o.guard.isNone) = true) (h : ql P ops.toList (Q .normal) Q a w) : (Code.region id ops false).wpIn (Fw none) 0 P Q a w := by
  refine wpIn_region ?_
  have := ql_ops (P := P) (ops := ops.toList) (Q := Q) ops.toList 0 a w (by simp) (fun o ho => by simpa using List.all_eq_true.1 hg o ho) h
  simpa [List.range_eq_range'] using this


/-- The first operations by hand, the others as wpOpsIn. -/
theorem ql_pre {P : Program} {ops : Array Oper} {id : Nat} {Q : Exit → Act → World → Prop} {a : Act} {w : World} (c : Nat) (hc : c ≤ ops.size) (hg : ((ops.toList.take c).all fun o => o.guard.isNone) = true) (h : ql P (ops.toList.take c) (fun a w => wpOpsIn (Fw none) 0 P ops Q (List.range' c (ops.size - c)) a w) Q a w) : (Code.region id ops false).wpIn (Fw none) 0 P Q a w := by
  refine wpIn_region ?_
  have key : ∀ (l : List Oper) (k : Nat) (a : Act) (w : World), k + l.length = c → (∀ j, j < l.length → l[j]? = ops[k + j]?) → (∀ o ∈ l, o.guard = none) → ql P l (fun a w => wpOpsIn (Fw none) 0 P ops Q (List.range' c (ops.size - c)) a w) Q a w →
      wpOpsIn (Fw none) 0 P ops Q (List.range' k l.length ++ List.range' c (ops.size - c)) a w := by
    intro l
    induction l with
    | nil => intro k a w _ _ _ h; exact h
    | cons o l ih =>
      intro k a w hk hl hg h
      rw [List.length_cons, List.range'_succ, List.cons_append, wpOpsIn_cons]
      have ho : ops[k]? = some o := by simpa using (hl 0 (by simp)).symm
      have hw : Region.wanted o (yielded ops a.tmps) = true := by unfold Region.wanted; rw [hg o (by simp)]
      unfold wpOpIn
      rw [ho]
      simp only [hw, if_true]
      refine ⟨fun _ _ => trivial, ?_⟩
      show Oper.uponIn (Fw none) 0 P o a _ Q ((o.semAt none a.eval).run P w)
      rw [Oper.semAt_none]
      exact upon_in (ql_mono (fun a' w' h' => ih (k + 1) a' w' (by simp only [List.length_cons] at hk; omega) (fun j hj => by
        have := hl (j + 1) (by simp; omega)
        simpa [Nat.add_assoc, Nat.add_comm 1 j] using this) (fun q hq => hg q (by simp [hq])) h') h)
  have hlen : (ops.toList.take c).length = c := by rw [List.length_take, Array.length_toList]; exact Nat.min_eq_left hc
  have := key (ops.toList.take c) 0 a w (by omega) (fun j hj => by
    rw [hlen] at hj
    rw [List.getElem?_take, if_pos hj]
    simp) (fun o ho => by simpa using List.all_eq_true.1 hg o ho) h
  rw [hlen] at this
  have e : List.range' 0 c ++ List.range' c (ops.size - c) = List.range ops.size := by
    rw [List.range_eq_range']
    have := List.range'_append_1 (s := 0) (m := c) (n := ops.size - c)
    rw [Nat.zero_add] at this
    rw [this]
    congr 1
    omega
  rw [e] at this
  exact this
end
end Go.Tk
/- Plain facts of layer 4: tables as ascending lists, and the kit's data of maps. No program in sight. -/
set_option linter.unusedSimpArgs false
set_option linter.unusedVariables false
set_option linter.unnecessarySimpa false
namespace Go.Tk
open Go Go.RowKit

section
variable {L : Type}
def Asc (E : List (Int × L)) : Prop := E.Pairwise fun p q => p.1 < q.1
def putE : List (Int × L) → Int → L → List (Int × L)
  | [], k, l => [(k, l)]
  | (a, m) :: E, k, l => if k < a then (k, l) :: (a, m) :: E else if k = a then (k, l) :: E else (a, m) :: putE E k l
def lookE : List (Int × L) → Int → Option L
  | [], _ => none
  | (a, m) :: E, k => if a = k then some m else lookE E k
def mergeE (E F : List (Int × L)) : List (Int × L) := F.foldl (fun E p => putE E p.1 p.2) E

theorem putE_mem {E : List (Int × L)} {k : Int} {l : L} : ∀ {p}, p ∈ putE E k l → p.1 = k ∨ p ∈ E := by
  induction E with
  | nil => intro p hp; simp [putE] at hp; simp [hp]
  | cons a E ih =>
    obtain ⟨a, m⟩ := a
    intro p hp
    unfold putE at hp
    split at hp
    · rcases List.mem_cons.1 hp with rfl | hp
      · exact .inl rfl
      · exact .inr hp
    · split at hp
      · rcases List.mem_cons.1 hp with rfl | hp
        · exact .inl rfl
        · exact .inr (by simp [hp])
      · rcases List.mem_cons.1 hp with rfl | hp
        · exact .inr (by simp)
        · rcases ih hp with h | h
          · exact .inl h
          · exact .inr (by simp [h])
theorem putE_val {k : Int} {l : L} : ∀ {E : List (Int × L)} {p}, p ∈ putE E k l → p = (k, l) ∨ p ∈ E
  | [], p, hp => by simp [putE] at hp; simp [hp]
  | (a, m) :: E, p, hp => by
    unfold putE at hp
    split at hp
    · rcases List.mem_cons.1 hp with rfl | hp
      · exact .inl rfl
      · exact .inr hp
    · split at hp
      · rcases List.mem_cons.1 hp with rfl | hp
        · exact .inl rfl
        · exact .inr (by simp [hp])
      · rcases List.mem_cons.1 hp with rfl | hp
        · exact .inr (by simp)
        · rcases putE_val hp with h | h
          · exact .inl h
          · exact .inr (by simp [h])
theorem putE_asc {k : Int} {l : L} : ∀ {E : List (Int × L)}, Asc E → Asc (putE E k l)
  | [], _ => by simp [putE, Asc]
  | (a, m) :: E, h => by
    obtain ⟨h1, h2⟩ := List.pairwise_cons.1 h
    unfold putE
    split
    · rename_i hk
      refine List.pairwise_cons.2 ⟨fun p hp => ?_, h⟩
      rcases List.mem_cons.1 hp with rfl | hp
      · exact hk
      · have := h1 p hp
        show k < p.1
        have : a < p.1 := this
        omega
    · split
      · rename_i hk
        refine List.pairwise_cons.2 ⟨fun p hp => ?_, h2⟩
        have : a < p.1 := h1 p hp
        show k < p.1
        omega
      · refine List.pairwise_cons.2 ⟨fun p hp => ?_, putE_asc h2⟩
        rcases putE_mem hp with e | hp
        · show a < p.1
          omega
        · exact h1 p hp
theorem look_none {k : Int} : ∀ {E : List (Int × L)}, (∀ p ∈ E, p.1 ≠ k) → lookE E k = none
  | [], _ => rfl
  | (a, m) :: E, h => by
    unfold lookE
    rw [if_neg (h (a, m) (by simp))]
    exact look_none fun p hp => h p (by simp [hp])
theorem look_mem {k : Int} {l : L} : ∀ {E : List (Int × L)}, Asc E → (lookE E k = some l ↔ (k, l) ∈ E)
  | [], _ => by simp [lookE]
  | (a, m) :: E, h => by
    obtain ⟨h1, h2⟩ := List.pairwise_cons.1 h
    unfold lookE
    by_cases e : a = k
    · rw [if_pos e]
      subst e
      constructor
      · intro q; cases q; simp
      · intro q
        rcases List.mem_cons.1 q with q | q
        · cases q; rfl
        · have : a < a := h1 (a, l) q
          omega
    · rw [if_neg e, look_mem h2]
      constructor
      · intro q; simp [q]
      · intro q
        rcases List.mem_cons.1 q with q | q
        · cases q; exact absurd rfl e
        · exact q
theorem look_put {k j : Int} {l : L} : ∀ {E : List (Int × L)}, Asc E → lookE (putE E k l) j = if k = j then some l else lookE E j
  | [], _ => by simp [putE, lookE]
  | (a, m) :: E, h => by
    obtain ⟨h1, h2⟩ := List.pairwise_cons.1 h
    unfold putE
    split
    · rfl
    · split
      · rename_i hk
        subst hk
        simp only [lookE]
        by_cases e : k = j
        · rw [if_pos e, if_pos e]
        · rw [if_neg e, if_neg e, if_neg e]
      · rename_i g1 g2
        simp only [lookE]
        rw [look_put h2]
        by_cases e : a = j
        · rw [if_pos e, if_pos e, if_neg (by omega)]
        · rw [if_neg e, if_neg e]
theorem asc_ext : ∀ {E F : List (Int × L)}, Asc E → Asc F → (∀ k, lookE E k = lookE F k) → E = F
  | [], [], _, _, _ => rfl
  | [], (b, n) :: F, _, _, h => by have := h b; simp [lookE] at this
  | (a, m) :: E, [], _, _, h => by have := h a; simp [lookE] at this
  | (a, m) :: E, (b, n) :: F, hE, hF, h => by
    obtain ⟨e1, e2⟩ := List.pairwise_cons.1 hE
    obtain ⟨f1, f2⟩ := List.pairwise_cons.1 hF
    have ha : (a, m) ∈ (b, n) :: F := (look_mem hF).1 (by rw [← h a]; simp [lookE])
    have hb : (b, n) ∈ (a, m) :: E := (look_mem hE).1 (by rw [h b]; simp [lookE])
    have hab : (a, m) = (b, n) := by
      rcases List.mem_cons.1 ha with q | q
      · exact q
      · rcases List.mem_cons.1 hb with r | r
        · exact r.symm
        · have q1 : b < a := f1 _ q
          have q2 : a < b := e1 _ r
          omega
    cases hab
    congr 1
    refine asc_ext e2 f2 fun k => ?_
    have hk := h k
    simp only [lookE] at hk
    by_cases e : a = k
    · rw [look_none (fun p hp => by have : a < p.1 := e1 p hp; omega), look_none (fun p hp => by have : a < p.1 := f1 p hp; omega)]
    · rw [if_neg e, if_neg e] at hk; exact hk
theorem merge_asc : ∀ {F E : List (Int × L)}, Asc E → Asc (mergeE E F)
  | [], _, h => h
  | p :: F, E, h => merge_asc (F := F) (putE_asc h)
theorem look_merge {k : Int} : ∀ {F E : List (Int × L)}, Asc E → Asc F → lookE (mergeE E F) k = match lookE F k with | some l => some l | none => lookE E k
  | [], _, _, _ => rfl
  | (a, m) :: F, E, hE, hF => by
    obtain ⟨f1, f2⟩ := List.pairwise_cons.1 hF
    show lookE (mergeE (putE E a m) F) k = _
    rw [look_merge (putE_asc hE) f2, look_put hE]
    simp only [lookE]
    by_cases e : a = k
    · rw [if_pos e, if_pos e, look_none fun p hp => by have : a < p.1 := f1 p hp; omega]
    · rw [if_neg e, if_neg e]
theorem putE_len (k : Int) (l : L) : ∀ E : List (Int × L), (putE E k l).length ≤ E.length + 1
  | [] => by simp [putE]
  | (a, m) :: E => by
    unfold putE
    split
    · simp
    · split
      · simp
      · have := putE_len k l E
        simp only [List.length_cons]
        omega
theorem merge_len : ∀ F E : List (Int × L), (mergeE E F).length ≤ E.length + F.length
  | [], E => by simp [mergeE]
  | p :: F, E => by
    have := merge_len F (putE E p.1 p.2)
    have h2 := putE_len p.1 p.2 E
    show (mergeE (putE E p.1 p.2) F).length ≤ _
    simp only [List.length_cons]
    omega
/-- A key above all others goes to the end. -/
theorem putE_end {k : Int} {l : L} : ∀ {E : List (Int × L)}, (∀ p ∈ E, p.1 < k) → putE E k l = E ++ [(k, l)]
  | [], _ => rfl
  | (a, m) :: E, h => by
    have h1 : a < k := h (a, m) (by simp)
    unfold putE
    rw [if_neg (by omega), if_neg (by omega), putE_end fun p hp => h p (by simp [hp])]
    rfl

/-! ### The kit's data -/
variable (enc : L → Value)
def ent (p : Int × L) : Lit × DataW Value := (.int .i64 p.1, .held (enc p.2))
def dm (E : List (Int × L)) : DataW Value := .map (E.map (ent enc))
theorem same_int (a b : Int) : (Lit.int .i64 a).sameKey (.int .i64 b) = decide (a = b) := by simp [Lit.sameKey]
theorem before_int (a b : Int) : (Lit.int .i64 a).before (.int .i64 b) = decide (a < b) := by simp [Lit.before]
theorem filt_gt {k : Int} : ∀ {E : List (Int × L)}, (∀ p ∈ E, p.1 ≠ k) → (E.map (ent enc)).filter (fun p => !p.1.sameKey (.int .i64 k)) = E.map (ent enc)
  | [], _ => rfl
  | p :: E, h => by
    rw [List.map_cons, List.filter_cons_of_pos (by simp [ent, same_int, h p (by simp)]), filt_gt fun q hq => h q (by simp [hq])]
theorem dm_put {k : Int} {l : L} : ∀ {E : List (Int × L)}, Asc E → (dm enc E).put (.int .i64 k) (.held (enc l)) = dm enc (putE E k l)
  | [], _ => rfl
  | (a, m) :: E, h => by
    obtain ⟨h1, h2⟩ := List.pairwise_cons.1 h
    have ih := dm_put (k := k) (l := l) h2
    unfold dm DataW.put at ih ⊢
    simp only [DataW.map.injEq] at ih ⊢
    unfold putE
    by_cases e : k = a
    · subst e
      rw [if_neg (by omega), if_pos rfl, List.map_cons, List.filter_cons_of_neg (by simp [ent, same_int]), filt_gt enc fun p hp => by have : k < p.1 := h1 p hp; omega]
      cases E with
      | nil => rfl
      | cons q E =>
        have : k < q.1 := h1 q (by simp)
        rw [List.map_cons]
        unfold DataW.insert
        rw [if_pos (by simp [ent, before_int, this])]
        rfl
    · rw [List.map_cons, List.filter_cons_of_pos (by simp [ent, same_int]; omega)]
      unfold DataW.insert
      by_cases g : k < a
      · rw [if_pos g, if_pos (by simp [ent, before_int, g]), filt_gt enc fun p hp => by have : a < p.1 := h1 p hp; omega]
        rfl
      · rw [if_neg g, if_neg e, if_neg (by simp [ent, before_int]; omega), ih]
        rfl
theorem dm_has (E : List (Int × L)) (k : Int) : Maps.has (dm enc E) (.int .i64 k) = (lookE E k).isSome := by
  unfold dm
  rw [Maps.has_eq]
  induction E with
  | nil => rfl
  | cons p E ih =>
    obtain ⟨a, m⟩ := p
    rw [List.map_cons, List.any_cons, ih]
    simp only [lookE, ent, same_int]
    by_cases e : a = k <;> simp [e]
theorem dm_at {k : Int} (z : DataW Value) : ∀ (E : List (Int × L)), (dm enc E).atKey (.int .i64 k) z = match lookE E k with | some l => .held (enc l) | none => z
  | [] => rfl
  | (a, m) :: E => by
    have ih := dm_at z E (k := k)
    unfold dm DataW.atKey at ih ⊢
    simp only [List.map_cons, List.find?_cons, ent, same_int, lookE]
    by_cases e : a = k
    · simp [e]
    · simp only [e, decide_false, if_false]
      exact ih
theorem dm_size (E : List (Int × L)) : Maps.size (dm enc E) = E.length := by simp [dm, Maps.size_eq]
theorem dm_keys (E : List (Int × L)) : intKeys (dm enc E) = E.map (·.1) := by
  show (E.map (ent enc)).map _ = _
  rw [List.map_map]
  rfl
theorem dm_merge : ∀ (F E : List (Int × L)), Asc E → Lib.mergeD (dm enc E) (dm enc F) = dm enc (mergeE E F)
  | [], _, _ => rfl
  | p :: F, E, h => by
    have := dm_merge F (putE E p.1 p.2) (putE_asc h)
    show List.foldl (fun D (p : Lit × DataW Value) => D.put p.1 p.2) ((dm enc E).put (.int .i64 p.1) (.held (enc p.2))) (F.map (ent enc)) = _
    rw [dm_put enc h]
    exact this
end
end Go.Tk
/- Tables of patches, in a world. -/
set_option linter.unusedSimpArgs false
set_option linter.unusedVariables false
set_option linter.unnecessarySimpa false
namespace Go.Tk
open Go Go.RowKit

def lnV (l : Lin) : Value := .agg #[.int .i64 l.1, .int .i64 l.2.1, .int .i64 l.2.2.1, .int .i64 l.2.2.2.1]
def edV (e : Edt) : Value := .agg #[.int .i64 e.1, .int .i64 e.2.1.1, .int .i64 e.2.1.2.1, .int .i64 e.2.1.2.2.1, .int .i64 e.2.1.2.2.2.1]
def inL (l : Lin) : Prop := inI l.1 ∧ inI l.2.1 ∧ inI l.2.2.1 ∧ inI l.2.2.2.1
theorem lnV_inj {a b : Lin} (h : lnV a = lnV b) : a = b := by
  obtain ⟨a1, a2, a3, a4, ⟨⟩⟩ := a
  obtain ⟨b1, b2, b3, b4, ⟨⟩⟩ := b
  simp [lnV] at h
  obtain ⟨rfl, rfl, rfl, rfl⟩ := h
  rfl
/-- How a line reads. -/
def encR (v : Value) : Option (DataW Value × List MemPlace) := match v with
  | .agg ⟨[.int .i64 a, .int .i64 b, .int .i64 c, .int .i64 d]⟩ => if (-9223372036854775808 ≤ a ∧ a ≤ 9223372036854775807) ∧ (-9223372036854775808 ≤ b ∧ b ≤ 9223372036854775807) ∧ (-9223372036854775808 ≤ c ∧ c ≤ 9223372036854775807) ∧ (-9223372036854775808 ≤ d ∧ d ≤ 9223372036854775807) then some (.held v, []) else none
  | _ => none
theorem encR_ln {l : Lin} (h : inL l) : encR (lnV l) = some (.held (lnV l), []) := by
  obtain ⟨h1, h2, h3, h4⟩ := h
  unfold inI at h1 h2 h3 h4
  simp only [encR, lnV]
  rw [if_pos ⟨h1, h2, h3, h4⟩]
theorem encR_inv {v : Value} {y : DataW Value × List MemPlace} (h : encR v = some y) : ∃ l : Lin, inL l ∧ v = lnV l ∧ y = (.held (lnV l), []) := by
  unfold encR at h
  split at h
  · rename_i a b c d
    split at h
    · rename_i hb
      cases h
      exact ⟨(a, b, c, d, ()), by unfold inL inI; exact hb, rfl, rfl⟩
    · cases h
  · cases h
theorem key_wf {n : Int} (h : inI n) : (Lit.int .i64 n).wf = true := by
  unfold inI at h
  have e1 : IntKind.i64.min = -9223372036854775808 := by decide
  have e2 : IntKind.i64.max = 9223372036854775807 := by decide
  show (decide (IntKind.i64.min ≤ n) && decide (n ≤ IntKind.i64.max)) = true
  rw [e1, e2, Bool.and_eq_true, decide_eq_true_eq, decide_eq_true_eq]
  exact h
theorem kI_u : Go.Proofs.Try.prog.underlying 3 = some (.int .i64) := by kernel_rfl
theorem tT_u : Go.Proofs.Try.prog.underlying 199 = some (.map 3 53) := by kernel_rfl
theorem kI : Maps.Keyed Go.Proofs.Try.prog 3 := Maps.int_keyed kI_u
theorem key_mk {n : Int} (h : inI n) : keyOf Go.Proofs.Try.prog 3 (.int .i64 n) = some (.int .i64 n) := Maps.keyOf_int_mk kI_u (key_wf h)

/-- Block b is the table E. -/
structure ownsT (w : World) (b : Nat) (E : List (Int × Lin)) : Prop where
  own : w.ownsMap Go.Proofs.Try.prog 3 encR b E.length (dm lnV E)
  asc : Asc E
  ok : ∀ p ∈ E, inI p.1 ∧ inL p.2
theorem own_tight {w : World} {b n : Nat} {E : List (Int × Lin)} (h : w.ownsMap Go.Proofs.Try.prog 3 encR b n (dm lnV E)) : w.ownsMap Go.Proofs.Try.prog 3 encR b E.length (dm lnV E) := by
  obtain ⟨es, clock, hb, F, hs, hD⟩ := h
  refine ⟨es, clock, hb, F, ?_, hD⟩
  have := congrArg Maps.size hD
  rw [dm_size] at this
  rw [this, Maps.size_eq, length_read]
  exact Nat.le_refl _
theorem ownsT_new (w : World) : ownsT (w.alloc (.map #[] 0)) w.heap.size [] := ⟨World.ownsMap_made w _ _ _, List.Pairwise.nil, by simp⟩
theorem ownsT.kept {w w' : World} {b : Nat} {E : List (Int × Lin)} (h : ownsT w b E) (hb : w'.heap[b]? = w.heap[b]?) : ownsT w' b E := by
  obtain ⟨⟨es, clock, h1, h2⟩, h3, h4⟩ := h
  exact ⟨⟨es, clock, hb.trans h1, h2⟩, h3, h4⟩
theorem ownsT.lt {w : World} {b : Nat} {E : List (Int × Lin)} (h : ownsT w b E) : b < w.heap.size := h.own.lt
theorem ownsT.put {w : World} {b : Nat} {E : List (Int × Lin)} (h : ownsT w b E) (hn : E.length ≤ 1000000) {k : Int} {l : Lin} (hk : inI k) (hl : inL l) :
    ∃ w', (Instr.mapUpdate 199 (.map (some b)) (.int .i64 k) (lnV l)).run Go.Proofs.Try.prog w = .ok () w' ∧ ownsT w' b (putE E k l) ∧ w.grownBy w' (some b) := by
  obtain ⟨w', hr, h1, h2⟩ := h.own.update kI tT_u (by unfold maxLen; omega) (key_mk hk) (encR_ln hl)
  rw [dm_put lnV h.asc] at h1
  refine ⟨w', hr, ⟨own_tight h1, putE_asc h.asc, fun p hp => ?_⟩, h2⟩
  rcases putE_val hp with rfl | hp
  · exact ⟨hk, hl⟩
  · exact h.ok p hp
theorem ownsT.len {w : World} {b : Nat} {E : List (Int × Lin)} (h : ownsT w b E) (ty : TypeId) : (Builtin.len_ #[199] ty #[.map (some b)]).run Go.Proofs.Try.prog w = .ok (.int .i64 E.length) w := by
  have := h.own.len tT_u ty
  rwa [dm_size] at this
def zL : Lin := (0, 0, 0, 0, ())
theorem zL_run (w : World) : (zeroValue 53).run Go.Proofs.Try.prog w = .ok (lnV zL) w := by kernel_rfl
theorem zL_in : inL zL := by unfold inL inI zL; decide
theorem ownsT.look {w : World} {b : Nat} {E : List (Int × Lin)} (h : ownsT w b E) {k : Int} (hk : inI k) :
    (Instr.lookup 199 (.map (some b)) (.int .i64 k) false).run Go.Proofs.Try.prog w = .ok (lnV ((lookE E k).getD zL)) w := by
  obtain ⟨v, ps, hr, hv⟩ := h.own.lookup kI tT_u (zL_run w) (encR_ln zL_in) (key_mk hk)
  obtain ⟨l, hl, rfl, e⟩ := encR_inv hv
  rw [dm_at] at e
  rw [hr]
  have e := congrArg Prod.fst e
  simp only at e
  cases hx : lookE E k with
  | none =>
    rw [hx] at e
    cases lnV_inj (DataW.held.inj e)
    rfl
  | some m =>
    rw [hx] at e
    cases lnV_inj (DataW.held.inj e)
    rfl
theorem ownsT.look_ok {w : World} {b : Nat} {E : List (Int × Lin)} (h : ownsT w b E) {k : Int} (hk : inI k) :
    (Instr.lookup 199 (.map (some b)) (.int .i64 k) true).run Go.Proofs.Try.prog w = .ok (.tuple #[lnV ((lookE E k).getD zL), .bool (lookE E k).isSome]) w := by
  obtain ⟨v, ps, hr, hv⟩ := h.own.look_ok kI tT_u (zL_run w) (encR_ln zL_in) (key_mk hk)
  obtain ⟨l, hl, rfl, e⟩ := encR_inv hv
  rw [dm_at] at e
  rw [hr, dm_has]
  have e := congrArg Prod.fst e
  simp only at e
  cases hx : lookE E k with
  | none =>
    rw [hx] at e
    cases lnV_inj (DataW.held.inj e)
    rfl
  | some m =>
    rw [hx] at e
    cases lnV_inj (DataW.held.inj e)
    rfl
end Go.Tk
/- Plain facts of layer 4: a patch as a table. No program in sight. -/
set_option linter.unusedSimpArgs false
set_option linter.unusedVariables false
set_option linter.unnecessarySimpa false
namespace Go.Tk
open Go Go.RowKit
def readE (x : List Edt) : List (Int × Lin) := x.map fun e => (e.1, e.2.1)
def inX (n : Nat) (x : List Edt) : Prop := ∀ e ∈ x, 0 ≤ e.1 ∧ e.1 < n
theorem look_in {E : List (Int × Lin)} {k : Int} {l : Lin} : lookE E k = some l → (k, l) ∈ E := by
  induction E with
  | nil => intro h; cases h
  | cons p E ih =>
    obtain ⟨a, m⟩ := p
    intro h
    unfold lookE at h
    split at h
    · rename_i e
      subst e
      cases h
      simp
    · simp [ih h]
theorem play_look : ∀ (x : List Edt) (p : List Lin) (i : Nat) (d : Lin), Asc (readE x) → inX p.length x → i < p.length → (playX p x).getD i d = match lookE (readE x) i with | some l => l | none => p.getD i d
  | [], _, _, _, _, _, _ => rfl
  | e :: x, p, i, d, ha, hx, hi => by
    obtain ⟨h1, h2⟩ := List.pairwise_cons.1 ha
    have he := hx e (by simp)
    have ih := play_look x (p.set e.1.toNat e.2.1) i d h2 (fun q hq => by rw [List.length_set]; exact hx q (by simp [hq])) (by rw [List.length_set]; exact hi)
    show (playX (p.set e.1.toNat e.2.1) x).getD i d = match lookE ((e.1, e.2.1) :: readE x) i with | some l => l | none => p.getD i d
    rw [ih, show lookE ((e.1, e.2.1) :: readE x) i = if e.1 = (i : Int) then some e.2.1 else lookE (readE x) i from rfl]
    by_cases g : e.1 = (i : Int)
    · rw [if_pos g, look_none fun q hq => by have : e.1 < q.1 := h1 q hq; omega]
      simp only
      rw [show e.1.toNat = i by omega, List.getD_eq_getElem?_getD, List.getElem?_set_self hi]
      rfl
    · rw [if_neg g]
      have : (p.set e.1.toNat e.2.1).getD i d = p.getD i d := by
        rw [List.getD_eq_getElem?_getD, List.getElem?_set_ne (by omega), ← List.getD_eq_getElem?_getD]
      rw [this]
end Go.Tk
/- patch.read. -/
set_option linter.unusedSimpArgs false
set_option linter.unusedVariables false
set_option linter.unnecessarySimpa false
set_option maxRecDepth 10000
set_option maxHeartbeats 4000000
namespace Go.Tk
open Go Go.RowKit

/-! ### The elements of a patch -/
abbrev tX : T := .sl tEd
def inE (e : Edt) : Prop := inI e.1 ∧ inL e.2.1
theorem ed_cs {w : World} {S : Nat → Prop} {e : Edt} {cs : List Value} (h : (reps Go.Proofs.Try.prog tEd).c w S e cs) : cs = [.int .i64 e.1, .int .i64 e.2.1.1, .int .i64 e.2.1.2.1, .int .i64 e.2.1.2.2.1, .int .i64 e.2.1.2.2.2.1] ∧ inE e := by
  obtain ⟨c1, c2, rfl, ⟨rfl, h1⟩, c3, c4, rfl, ⟨d1, d2, rfl, ⟨rfl, h2⟩, d3, d4, rfl, ⟨rfl, h3⟩, d5, d6, rfl, ⟨rfl, h4⟩, d7, d8, rfl, ⟨rfl, h5⟩, h6⟩, h7⟩ := h
  have e8 : d8 = [] := h6
  have e4 : c4 = [] := h7
  subst e8
  subst e4
  exact ⟨rfl, h1, h2, h3, h4, h5⟩
theorem repL_nth {α : Type} {R : α → List Value → Prop} {n : Nat} (d : α) (hn : ∀ x cs, R x cs → cs.length = n) : ∀ (xs : List α) (cs : List Value) (i : Nat), repL R xs cs → i < xs.length → R (xs.getD i d) ((cs.drop (i * n)).take n)
  | [], _, _, _, hi => by simp at hi
  | x :: xs, cs, 0, ⟨c1, c2, e, h1, h2⟩, _ => by
    have := hn _ _ h1
    subst e
    rw [Nat.zero_mul, List.drop_zero, List.take_left' this]
    exact h1
  | x :: xs, cs, i + 1, ⟨c1, c2, e, h1, h2⟩, hi => by
    have h3 := hn _ _ h1
    subst e
    have := repL_nth d hn xs c2 i h2 (by simpa using hi)
    have e : (c1 ++ c2).drop ((i + 1) * n) = c2.drop (i * n) := by
      rw [show (i + 1) * n = c1.length + i * n by rw [h3, Nat.add_mul]; omega]
      simp
    rw [e]
    exact this
theorem cell_same {W w : World} {b o : Nat} (h : W.heap[b]? = w.heap[b]?) : W.cell? ⟨b, o, none⟩ = w.cell? ⟨b, o, none⟩ := by
  simp only [World.cell?]; rw [h]
theorem ed_load {w : World} {S : Nat → Prop} {x : List Edt} {xv : Value} (h : (reps Go.Proofs.Try.prog tX).c w S x [xv]) : ∃ ao cap, xv = .slice ao x.length cap ∧ x.length ≤ 140737488355328 ∧ (∀ e ∈ x, inE e) ∧ (x ≠ [] → ∃ b off, ao = some ⟨b, off, none⟩ ∧ b < w.heap.size ∧ (∀ i : Nat, i < x.length → ∀ W : World,
    (Instr.indexAt 83 xv (.int .i64 i)).run Go.Proofs.Try.prog W = .ok (.pointer (some ⟨b, off + i * 5, none⟩)) W) ∧ (∀ i : Nat, i < x.length → ∀ W : World, W.heap[b]? = w.heap[b]? → ∃ e, e = x.getD i tEd.dflt ∧
    W.cell? ⟨b, off + i * 5, none⟩ = some (.int .i64 e.1) ∧ W.cell? ⟨b, off + i * 5 + 1, none⟩ = some (.int .i64 e.2.1.1) ∧ W.cell? ⟨b, off + i * 5 + 2, none⟩ = some (.int .i64 e.2.1.2.1) ∧ W.cell? ⟨b, off + i * 5 + 3, none⟩ = some (.int .i64 e.2.1.2.2.1) ∧ W.cell? ⟨b, off + i * 5 + 4, none⟩ = some (.int .i64 e.2.1.2.2.2.1))) := by
  obtain ⟨v, e, ao, cap, rfl, h1, h2, h3⟩ := h
  cases e
  have h3 : x = [] ∨ ∃ b off cs, ao = some ⟨b, off, none⟩ ∧ S b ∧ b < w.heap.size ∧ cellsAt w b off cs ∧ repL ((reps Go.Proofs.Try.prog tEd).c w S) x cs := h3
  have hn : ∀ (e : Edt) cs, (reps Go.Proofs.Try.prog tEd).c w S e cs → cs.length = 5 := fun e cs h => by rw [(ed_cs h).1]; rfl
  refine ⟨ao, cap, rfl, h2, fun e he => ?_, fun hne => ?_⟩
  · rcases h3 with rfl | ⟨b, off, cs, _, _, _, _, h4⟩
    · cases he
    · obtain ⟨i, hi, ei⟩ := List.mem_iff_getElem.1 he
      have := (ed_cs (repL_nth tEd.dflt hn x cs i h4 hi)).2
      rw [List.getD_eq_getElem?_getD, List.getElem?_eq_getElem hi] at this
      rw [← ei]; exact this
  · rcases h3 with rfl | ⟨b, off, cs, rfl, _, hb, hc, h4⟩
    · exact absurd rfl hne
    · refine ⟨b, off, rfl, hb, fun i hi W => ?_, fun i hi W hW => ⟨_, rfl, ?_⟩⟩
      · have hty : (tys Go.Proofs.Try.prog tX).ty 83 := (tyB_ok Go.Proofs.Try.prog tX).1 83 (by kernel_rfl)
        obtain ⟨e, t1, t2⟩ := ty_sl hty
        have := run_index_sl (w := W) t1 t2 (b := b) (off := off) (len := x.length) (cap := cap) (n := (i : Int)) (by omega) (by omega)
        rw [Int.toNat_natCast] at this
        exact this
      · have h5 := (ed_cs (repL_nth tEd.dflt hn x cs i h4 hi)).1
        have key : ∀ j v, j < 5 → ((cs.drop (i * 5)).take 5)[j]? = some v → W.cell? ⟨b, off + i * 5 + j, none⟩ = some v := by
          intro j v hj e
          rw [List.getElem?_take, if_pos hj, List.getElem?_drop] at e
          have := hc _ _ e
          rw [cell_same hW, Nat.add_assoc]
          exact this
        exact ⟨key 0 _ (by omega) (by rw [h5]; rfl), key 1 _ (by omega) (by rw [h5]; rfl), key 2 _ (by omega) (by rw [h5]; rfl), key 3 _ (by omega) (by rw [h5]; rfl), key 4 _ (by omega) (by rw [h5]; rfl)⟩

theorem read_call {w : World} {S : Nat → Prop} {x : List Edt} {xv : Value} (h : (reps Go.Proofs.Try.prog tX).c w S x [xv]) (hl : x.length ≤ 1000) (ha : Asc (readE x)) :
    Calls Go.Proofs.Try.prog 145 #[xv] w fun e w' => e = .returned (.map (some w.heap.size)) ∧ ownsT w' w.heap.size (readE x) ∧ Below w.heap.size w w' := by
  obtain ⟨ao, cap, rfl, hlen, hx, hld⟩ := ed_load h
  go_enter Go.Proofs.Try.func145, Go.Proofs.Try.ntmps145
  refine (wpIn_wide (n := 0)).1 ?_
  show Code.wpIn (Fw none) 0 _ _ _ _ _
  refine wpIn_seq (ql_region rfl ?_)
  simp [ql, go_sem, Exit.then]
  have hmk : ∀ W : World, (Instr.makeMap 199 none).run Go.Proofs.Try.prog W = .ok (.map (some W.heap.size)) (W.alloc (.map #[] 0)) := fun _ => rfl
  refine wpIn_seq (ql_region rfl ?_)
  simp [ql, go_sem, Exit.then, hmk]
  refine wpIn_seq (wpIn_seq (ql_region rfl ?_))
  simp [ql, go_sem, Exit.then]
  refine wpIn_block (wp_loopAt ?_)
  obtain ⟨A, hA⟩ : ∃ A : Nat → Act → World → Prop, A = fun m a W => ∃ x0 x1 x2 x4 x5 x6 x10 x11 x12 x13 x14 x15 x16 x17 x18 x19 : Value, a = ⟨#[x0, x1, x2, .map (some w.heap.size), x4, x5, x6, .slice ao x.length cap, .int .i64 x.length, .int .i64 m, x10, x11, x12, x13, x14, x15, x16, x17, x18, x19], []⟩ ∧ ownsT W w.heap.size (readE (x.take m)) ∧ Below w.heap.size w W := ⟨_, rfl⟩
  refine loop_upX (n := x.length) A ?_ ?_ 0 (by omega) _ _ (by rw [hA]; exact ⟨_, _, _, _, _, _, _, _, _, _, _, _, _, _, _, _, rfl, ownsT_new w, (Below.refl _ w).alloc (Nat.le_refl _) _⟩)
  · intro a W hh
    rw [hA] at hh
    obtain ⟨x0, x1, x2, x4, x5, x6, x10, x11, x12, x13, x14, x15, x16, x17, x18, x19, rfl, hT, hb⟩ := hh
    refine wpIn_seq (ql_region rfl ?_)
    simp [ql, go_sem, Exit.then]
    refine wpIn_seq (wpIn_cond_false (by simp [Act.eval]) (wpIn_exit ?_))
    simp only [Exit.then, Exit.inBlock, if_true]
    refine wpIn_seq (ql_region rfl ?_)
    simp [ql, go_sem, Exit.then]
    refine wpIn_ret ?_
    rw [List.take_length] at hT
    exact ⟨rfl, _, results_tmp rfl _ _ _, rfl, hT, hb⟩
  · intro m a W hm hh
    rw [hA] at hh
    obtain ⟨x0, x1, x2, x4, x5, x6, x10, x11, x12, x13, x14, x15, x16, x17, x18, x19, rfl, hT, hb⟩ := hh
    obtain ⟨bx, off, rfl, hbx, hix, hlx⟩ := hld (by intro e; rw [e] at hm; simp at hm)
    have hix := hix m hm
    obtain ⟨e, he, c0, c1, c2, c3, c4⟩ := hlx m hm W (hb.block bx hbx)
    clear hld hlx h
    refine wpIn_seq (ql_region rfl ?_)
    simp [ql, go_sem, Exit.then]
    refine wpIn_seq (wpIn_cond_true (by simp [Act.eval]; omega) (wpIn_skip ?_))
    simp only [Exit.then]
    refine wpIn_seq (wpIn_block (wpIn_seq (ql_region rfl ?_)))
    simp [ql, go_sem, Exit.then, hix, c0, c1, c2, c3, c4]
    have hin : inE e := by rw [he]; exact hx _ (mem_getD hm)
    have hEl : (readE (x.take m)).length ≤ 1000000 := by simp [readE]; omega
    obtain ⟨W2, hr, hT2, hg⟩ := (hT.kept (Below.heap_alloc W (.cells #[.int .i64 e.1, .int .i64 e.2.1.1, .int .i64 e.2.1.2.1, .int .i64 e.2.1.2.2.1, .int .i64 e.2.1.2.2.2.1] 152) _ hT.lt)).put hEl hin.1 hin.2
    simp only [lnV] at hr
    refine ql_region rfl ?_
    simp [ql, go_sem, Exit.then, Exit.inBlock, hr]
    refine ql_region rfl ?_
    simp [ql, go_sem, Exit.then, Exit.inBlock]
    rw [show IntKind.i64.wrap ((m : Int) + 1) = ((m + 1 : Nat) : Int) from wrap_in (by unfold inI; omega), hA]
    have hE : putE (readE (x.take m)) e.1 e.2.1 = readE (x.take (m + 1)) := by
      rw [take_snoc tEd.dflt hm, ← he]
      unfold readE
      rw [List.map_append]
      refine putE_end fun p hp => ?_
      have ha2 : Asc (readE (x.take (m + 1))) := by
        unfold readE Asc at ha ⊢
        rw [List.map_take]
        exact ha.sublist (List.take_sublist _ _)
      rw [take_snoc tEd.dflt hm, ← he] at ha2
      unfold readE Asc at ha2
      rw [List.map_append] at ha2
      exact (List.pairwise_append.1 ha2).2.2 p hp (e.1, e.2.1) (by simp)
    rw [hE] at hT2
    refine ⟨_, _, _, _, _, _, _, _, _, _, _, _, _, _, _, _, rfl, hT2, ?_⟩
    have hlb := hb.size
    have h1 : Below w.heap.size w (W.alloc (.cells #[.int .i64 e.1, .int .i64 e.2.1.1, .int .i64 e.2.1.2.1, .int .i64 e.2.1.2.2.1, .int .i64 e.2.1.2.2.2.1] 152)) := hb.alloc hlb _
    exact ⟨hg.os.trans h1.os, hg.tape.trans h1.tape, hg.output.trans h1.output, Nat.le_trans h1.size hg.size, fun i hi => (hg.block i (Nat.lt_of_lt_of_le hi h1.size) (fun e => by have := Option.some.inj e; omega)).trans (h1.block i hi)⟩
end Go.Tk
/- patch.do. -/
set_option linter.unusedSimpArgs false
set_option linter.unusedVariables false
set_option linter.unnecessarySimpa false
set_option maxRecDepth 10000
set_option maxHeartbeats 400000
namespace Go.Tk
open Go Go.RowKit
theorem arr27 (x : Array Value) (h : x.size = 27) : ∃ x0 x1 x2 x3 x4 x5 x6 x7 x8 x9 x10 x11 x12 x13 x14 x15 x16 x17 x18 x19 x20 x21 x22 x23 x24 x25 x26 : Value, x = #[x0, x1, x2, x3, x4, x5, x6, x7, x8, x9, x10, x11, x12, x13, x14, x15, x16, x17, x18, x19, x20, x21, x22, x23, x24, x25, x26] := by
  obtain ⟨l⟩ := x
  match l, h with
  | [x0, x1, x2, x3, x4, x5, x6, x7, x8, x9, x10, x11, x12, x13, x14, x15, x16, x17, x18, x19, x20, x21, x22, x23, x24, x25, x26], _ => exact ⟨_, _, _, _, _, _, _, _, _, _, _, _, _, _, _, _, _, _, _, _, _, _, _, _, _, _, _, rfl⟩
abbrev tP : T := .sl tL
theorem lk_key {α : Type _} : ∀ {E : List (Nat × α)} {t : Nat} {U : α}, lk E t = some U → t ∈ E.map (·.1)
  | [], _, _, h => by cases h
  | (k, v) :: E, t, U, h => by
    simp only [lk] at h
    split at h
    · rename_i e
      have : k = t := Nat.eq_of_beq_eq_true e
      simp [this]
    · simp [lk_key h]
theorem noIt1 {E : List (Nat × V)} {k0 : Nat} {f : Bool} {t : T} {xs : List t.den} : ∀ k g l, (mkSt (E, [(k0, .sl f t xs)])).loc k = some (g, l) → l.isIt = false := by
  intro k g l h
  have h := (mkLoc_some h).2
  simp only [lk] at h
  split at h
  · cases h; rfl
  · cases h
def kv16 (r : Nat) : Nat → Option Value := fun t => if t = 16 then some (.pointer (some ⟨r, 0, none⟩)) else none
theorem kv16_at {r t : Nat} {v : Value} (h : kv16 r t = some v) : t = 16 ∧ v = .pointer (some ⟨r, 0, none⟩) := by
  unfold kv16 at h
  split at h
  · rename_i e; cases h; exact ⟨e, rfl⟩
  · cases h
theorem kv16_no {r t : Nat} (h : t ≠ 16) : kv16 r t = none := by unfold kv16; rw [if_neg h]
abbrev cDo : Con := { A := (.cons (.sl tL) (.cons (.sl tEd) .nil)), R := (.cons (.osl tL) .nil), pre := fun x => x.1.length ≤ 1000 ∧ x.2.1.length ≤ 1000 ∧ Asc (readE x.2.1) ∧ inX x.1.length x.2.1, F := fun x => (playX x.1 x.2.1, ()) }
theorem cDo_ok : ConOK Go.Proofs.Try.prog 106 cDo := by
  refine ConOK.f ?_ rfl
  rintro w S ⟨p, x, ⟨⟩⟩ vs hv ⟨hp1, hx1, hasc, hin⟩
  change List Lin at p
  change List Edt at x
  have hp1 : p.length ≤ 1000 := hp1
  have hx1 : x.length ≤ 1000 := hx1
  have hasc : Asc (readE x) := hasc
  have hin : inX p.length x := hin
  have hv0 := hv
  obtain ⟨pv, vs1, b1, b2, rfl, e2, h1, h2⟩ := hv
  obtain ⟨xv, vs2, b3, b4, rfl, e3, h3, h4⟩ := h2
  obtain ⟨rfl, _⟩ : vs2 = [] ∧ _ := h4
  show Calls _ _ #[pv, xv] w _
  have hk : Cok Go.Proofs.Try.prog ⟨[], Th, 27, noX⟩ := cok_of trivial (by kernel_rfl) th_ok
  have hR := rel_start (n := 27) (A := .cons tP (.cons tX .nil)) (x := (p, x, ())) rfl hv0
  refine calls_of_wp Go.Proofs.Try.func106 rfl ?_
  rw [Go.Proofs.Try.ntmps106]
  refine (wpIn_wide (n := 0)).1 ?_
  show Code.wpIn (Fw none) 0 _ _ _ _ _
  refine eng_to hk mix_ok rfl rfl (ly := [([1, 1, 2], ⟨[(0, false), (1, false), (5, true)], [(10, true)]⟩)]) hR (by kernel_rfl) (fun _ _ => rfl) (fun Λ hΛ => ?_)
  have h0 : mkLen (p.length : Int) (p.length : Int) ∧ Λ [1, 1, 2] ([(0, .d false tP p), (1, .d false tX x), (5, .own 10 0)], [(10, .sl true tL (List.append (List.take (List.length (List.replicate (Int.toNat (List.length p : Int)) tL.dflt)) p) (List.drop (List.length p) (List.replicate (Int.toNat (List.length p : Int)) tL.dflt))))]) := by
    refine ⟨by unfold mkLen; omega, ?_⟩
    have e1 : (List.append (List.take (List.length (List.replicate (Int.toNat (List.length p : Int)) tL.dflt)) p) (List.drop (List.length p) (List.replicate (Int.toNat (List.length p : Int)) tL.dflt)) : List Lin) = p := by
      simp
    rw [e1]
    subst hΛ
    intro a W hR
    have hbW : Below w.heap.size w W := hR.low
    obtain ⟨tm, df⟩ := a
    obtain rfl : df = [] := hR.nd.2 rfl
    obtain ⟨x0, x1, x2, x3, x4, x5, x6, x7, x8, x9, x10, x11, x12, x13, x14, x15, x16, x17, x18, x19, x20, x21, x22, x23, x24, x25, x26, rfl⟩ := arr27 tm hR.sz
    obtain ⟨G, hm, he⟩ := hR.ex
    obtain ⟨xcs, ex1, hxr⟩ : ∃ cs, x1 = mkV tX cs ∧ (reps Go.Proofs.Try.prog tX).c W (dS (hB w.heap.size S (fun _ => none) (fun _ => False) fun b => w.heap[b]?) G (mkLoc [(10, .sl true tL p)]) false) x cs := he 1
    obtain ⟨xv', exc, hxs⟩ := hxr
    subst exc
    have hxr : (reps Go.Proofs.Try.prog tX).c W (dS (hB w.heap.size S (fun _ => none) (fun _ => False) fun b => w.heap[b]?) G (mkLoc [(10, .sl true tL p)]) false) x [xv'] := ⟨xv', rfl, hxs⟩
    have ex1 : x1 = xv' := ex1
    subst ex1
    clear hm he
    show Code.wpIn (Fw none) 0 _ _ _ _ _
    refine wpIn_seq (wpIn_seq (ql_region rfl ?_))
    simp [ql, go_sem, Exit.then]
    refine (read_call hxr hx1 hasc).mono ?_
    rintro e W1 ⟨rfl, hT, hb1⟩
    obtain ⟨W2, hrun, hrg, hg, hsz⟩ := hT.own.range kI tT_u
    simp [ql, go_sem, Exit.then, hrun]
    have lb1 := hb1.size
    have lb2 := hg.size
    have hlt2 := hT.lt
    obtain ⟨kb, hkb⟩ : ∃ kb : Nat → Prop, kb = fun b => b = W.heap.size ∨ b = W1.heap.size := ⟨_, rfl⟩
    have hR2 := hR.re (w' := W2) (kv' := fun _ => none) (kb' := kb) noIt1 (hg.os.trans hb1.os) (hg.tape.trans hb1.tape) (hg.output.trans hb1.output) (by omega) (fun b hb => (hg.block b (by have := hb.lt; omega) (by simp)).trans (hb1.block b hb.lt)) (fun b hb => (hg.block b (by have := hbW.size; omega) (by simp)).trans (hb1.block b (by have := hbW.size; omega))) (fun b hb => by rw [hkb] at hb; omega) (fun b hb hlt => by rw [hkb] at hb; omega) (fun _ _ h => by cases h)
    have hR3 := rel_env (kv' := kv16 W1.heap.size) (E' := [(0, .d false tP p), (1, .d false tX x), (5, .own 10 0)]) (a' := ⟨#[x0, x1, x2, x3, x4, x5, x6, x7, x8, x9, x10, x11, x12, x13, x1, .map (some W.heap.size), .pointer (some ⟨W1.heap.size, 0, none⟩), x17, x18, x19, x20, x21, x22, x23, x24, x25, x26], []⟩) hR2 rfl rfl (fun t v h => by obtain ⟨rfl, rfl⟩ := kv16_at h; rfl) (fun t U hU => .inl ⟨hU, by
      have := lk_key hU
      simp at this
      rcases this with rfl | rfl | rfl <;> rfl⟩)
    clear hR hR2
    obtain ⟨A, hA⟩ : ∃ A : Nat → Act → World → Prop, A = fun cnt a Wc => ∃ (out : List Lin) (left : Lit → Bool), Rel Go.Proofs.Try.prog (hB w.heap.size S (kv16 W1.heap.size) kb fun b => Wc.heap[b]?) w 27 (mkSt ([(0, .d false tP p), (1, .d false tX x), (5, .own 10 0)], [(10, .sl true tL out)])) a Wc ∧
      Wc.ranges Go.Proofs.Try.prog 3 encR W.heap.size W1.heap.size (readE x).length (dm lnV (readE x)) left cnt ∧ out.length = p.length ∧ ∀ i, i < p.length → out.getD i zL = match lookE (readE x) (i : Int) with
        | some l => if left (.int .i64 (i : Int)) = true then p.getD i zL else l
        | none => p.getD i zL := ⟨_, rfl⟩
    have hinit : A (Maps.size (dm lnV (readE x))) ⟨#[x0, x1, x2, x3, x4, x5, x6, x7, x8, x9, x10, x11, x12, x13, x1, .map (some W.heap.size), .pointer (some ⟨W1.heap.size, 0, none⟩), x17, x18, x19, x20, x21, x22, x23, x24, x25, x26], []⟩ W2 := by
      rw [hA]
      refine ⟨p, _, hR3, hrg, rfl, fun i hi => ?_⟩
      rw [dm_has]
      cases hlk : lookE (readE x) (i : Int) <;> simp
    refine wpIn_block (wp_loopAt (loop_downX A ?_ _ _ _ hinit))
    clear hR3 hrg hrun
    intro cnt a Wc hh
    rw [hA] at hh
    obtain ⟨out, left, hR, hrg, hol, hinv⟩ := hh
    obtain ⟨tm, df⟩ := a
    obtain rfl : df = [] := hR.nd.2 rfl
    obtain ⟨y0, y1, y2, y3, y4, y5, y6, y7, y8, y9, y10, y11, y12, y13, y14, y15, y16, y17, y18, y19, y20, y21, y22, y23, y24, y25, y26, rfl⟩ := arr27 tm hR.sz
    obtain rfl : y16 = .pointer (some ⟨W1.heap.size, 0, none⟩) := hR.kp 16 _ rfl
    rcases hrg.next kI 0 with ⟨hc0, hl0, hrun⟩ | ⟨key, v, kl, y, Wn, cnt', hkey, hlk, hv, hat, hrun, hrg', hlt, hgr, hsz', hen⟩
    · refine wpIn_seq (ql_region rfl ?_)
      simp [ql, go_sem, Exit.then, hrun]
      refine wpIn_seq (wpIn_cond_false (by simp [Act.eval]) (wpIn_exit ?_))
      simp only [Exit.then, Exit.inBlock, if_true]
      refine wpIn_seq (ql_region rfl ?_)
      simp [ql, go_sem, Exit.then]
      refine wpIn_ret ?_
      have hout : out = playX p x := by
        apply List.ext_getElem?
        intro i
        by_cases hi : i < p.length
        · have h1 := hinv i hi
          have h2 := play_look x p i zL hasc hin hi
          have h3 : out.getD i zL = (playX p x).getD i zL := by
            rw [h1, h2]
            cases lookE (readE x) (i : Int) <;> simp [hl0]
          rw [List.getD_eq_getElem?_getD, List.getD_eq_getElem?_getD, List.getElem?_eq_getElem (by omega), List.getElem?_eq_getElem (by rw [playX_len]; exact hi)] at h3
          rw [List.getElem?_eq_getElem (by omega), List.getElem?_eq_getElem (by rw [playX_len]; exact hi)]
          exact congrArg some h3
        · rw [List.getElem?_eq_none (by omega), List.getElem?_eq_none (by rw [playX_len]; omega)]
      rw [hout] at hR
      obtain ⟨ob, hown, hob⟩ := rel_own hR (d := 5) (k := 10) rfl rfl
      refine ⟨rfl, _, results_tmp rfl _ _ _, [y5], rfl, (ob.map (·.1)).toList, ⟨y5, [], (ob.map (·.1)).toList, [], rfl, (List.append_nil _).symm, ⟨ob, hown, rfl⟩, rfl, rfl⟩, by cases ob <;> simp, hob, hR.low⟩
    · obtain ⟨k, rfl, rfl, hkw⟩ := Maps.keyOf_int_inv kI_u hkey
      obtain ⟨l, hl, rfl, rfl⟩ := encR_inv hv
      have hkl : lookE (readE x) k = some l := by
        have := hat .nil
        rw [dm_at] at this
        cases hlk : lookE (readE x) k with
        | none => rw [hlk] at this; cases this
        | some m =>
          rw [hlk] at this
          have := lnV_inj (DataW.held.inj this)
          rw [this]
      have hkin := look_in hkl
      obtain ⟨e0, he0, ee0⟩ := List.mem_map.1 hkin
      have hk0 := hin e0 he0
      have hke : e0.1 = k := by cases ee0; rfl
      rw [hke] at hk0
      simp only [lnV] at hrun hen
      refine wpIn_seq (ql_region rfl ?_)
      simp [ql, go_sem, Exit.then, hrun]
      refine wpIn_seq (wpIn_cond_true (by simp [Act.eval]) (wpIn_skip ?_))
      simp only [Exit.then]
      refine wpIn_block (wpIn_seq (ql_region rfl ?_))
      simp [ql, go_sem, Exit.then, hen]
      have hrg0 := hrg'
      obtain ⟨es0, cl0, sn0, se0, c00, _, _, _, _, hri, _⟩ := hrg
      have hlow := hR.low
      have hlo2 := hlow.size
      have hbw := hbW.size
      have hrlt : W1.heap.size < Wc.heap.size := (Array.getElem?_eq_some_iff.1 hri).1
      have hner : ∀ b, isC Wc b → b ≠ W1.heap.size := by
        rintro b ⟨c, e, q, hb⟩ rfl
        rw [hri] at hb; cases hb
      have hRn := hR.re (w' := Wn) (kv' := kv16 W1.heap.size) (kb' := kb) noIt1 hgr.os hgr.tape hgr.output hgr.size (fun b hb => hgr.block b hb.lt fun e => hner b hb (Option.some.inj e)) (fun b hb => hgr.block b (by omega) fun e => by have := Option.some.inj e; omega) (fun b hb => by rw [hkb] at hb; omega) (fun b hb _ => .inl hb) (fun t v h => hR.kp t v h)
      have hcs : ∀ (W' : World) (S' : Nat → Prop), (reps Go.Proofs.Try.prog tL).c W' S' l [.int .i64 l.1, .int .i64 l.2.1, .int .i64 l.2.2.1, .int .i64 l.2.2.2.1] := fun W' S' =>
        ⟨[_], [_, _, _], rfl, ⟨rfl, hl.1⟩, [_], [_, _], rfl, ⟨rfl, hl.2.1⟩, [_], [_], rfl, ⟨rfl, hl.2.2.1⟩, [_], [], rfl, ⟨rfl, hl.2.2.2⟩, rfl⟩
      have hRb := rel_box (a' := ⟨#[y0, y1, y2, y3, y4, y5, .int .i64 k, .pointer (some ⟨Wn.heap.size, 0, none⟩), y8, y9, y10, y11, y12, y13, y14, y15, .pointer (some ⟨W1.heap.size, 0, none⟩), .tuple #[.bool true, .int .i64 k, .agg #[.int .i64 l.1, .int .i64 l.2.1, .int .i64 l.2.2.1, .int .i64 l.2.2.2.1]], .bool true, .tuple #[.int .i64 k, .agg #[.int .i64 l.1, .int .i64 l.2.1, .int .i64 l.2.2.1, .int .i64 l.2.2.2.1]], .int .i64 k, .agg #[.int .i64 l.1, .int .i64 l.2.1, .int .i64 l.2.2.1, .int .i64 l.2.2.2.1], y22, y23, y24, y25, y26], []⟩)
        (E' := [(0, .d false tP p), (1, .d false tX x), (5, .own 10 0), (6, .d true .int k), (7, .ept true tL l)]) (d := 7) (t := tL) (x := l) (ty := 53) hRn noIt1 hcs rfl rfl (fun t v h => by obtain ⟨rfl, rfl⟩ := kv16_at h; rfl) rfl (fun t U hU => by
          have hk7 := lk_key hU
          simp at hk7
          rcases hk7 with rfl | rfl | rfl | rfl | rfl
          · exact .inl ⟨hU, rfl⟩
          · exact .inl ⟨hU, rfl⟩
          · exact .inl ⟨hU, rfl⟩
          · refine .inr (.inr fun B G m w => ?_)
            cases hU
            exact ⟨[.int .i64 k], rfl, rfl, by unfold inI; omega⟩
          · cases hU
            exact .inr (.inl ⟨rfl, rfl⟩))
      refine eng_thru hk mix_ok rfl rfl (ly := ⟨[(0, false), (1, false), (5, true)], [(10, true)]⟩) (x := ([(0, .d false tP p), (1, .d false tX x), (5, .own 10 0)], [(10, .sl true tL (out.set k.toNat l))])) hRb (by kernel_rfl) (fun t ht => kv16_no fun e => ?_) ?_ ?_
      · rw [e] at ht
        revert ht
        decide
      · have h0 : idx k (out.length : Int) ∧ (([(0, V.d false tP p), (1, .d false tX x), (5, .own 10 0)], [(10, L.sl true tL (out.set k.toNat l))]) : Lst) = ([(0, .d false tP p), (1, .d false tX x), (5, .own 10 0)], [(10, .sl true tL (out.set k.toNat l))]) := ⟨by unfold idx; omega, rfl⟩
        exact Eq.mpr (by kernel_rfl) h0
      · intro a3 W3 hR3
        simp only [Exit.inBlock, Exit.then]
        refine ⟨cnt', hlt, ?_⟩
        rw [hA]
        refine ⟨out.set k.toNat l, fun z => left z && !z.sameKey (.int .i64 k), hR3.now noIt1, ?_, by rw [List.length_set]; exact hol, fun i hi => ?_⟩
        · obtain ⟨es, cl, sn, se, c0, g1, F, hs, hD, g2, rest⟩ := hrg0
          have hWn : ∀ b, b < Wn.heap.size → (Wn.alloc (.cells #[.int .i64 l.1, .int .i64 l.2.1, .int .i64 l.2.2.1, .int .i64 l.2.2.2.1] 53)).heap[b]? = Wn.heap[b]? := fun b hb => Below.heap_alloc _ _ b hb
          have hkp3 : ∀ b, kb b → W3.heap[b]? = (Wn.alloc (.cells #[.int .i64 l.1, .int .i64 l.2.1, .int .i64 l.2.2.1, .int .i64 l.2.2.2.1] 53)).heap[b]? := fun b hb => hR3.kept hb
          exact ⟨es, cl, sn, se, c0, ((hkp3 _ (by rw [hkb]; exact .inl rfl)).trans (hWn _ (by omega))).trans g1, F, hs, hD, ((hkp3 _ (by rw [hkb]; exact .inr rfl)).trans (hWn _ (by omega))).trans g2, rest⟩
        · by_cases e : (i : Int) = k
          · have e2 : k.toNat = i := by omega
            rw [e2, e, hkl, List.getD_eq_getElem?_getD, List.getElem?_set_self (by omega)]
            simp [same_int]
          · have h5 := hinv i hi
            rw [List.getD_eq_getElem?_getD, List.getElem?_set_ne (by omega), ← List.getD_eq_getElem?_getD, h5]
            simp only [same_int, e, decide_false, Bool.not_false, Bool.and_true]
  exact Eq.mpr (by kernel_rfl) h0
end Go.Tk
/- Plain facts of layer 4: valid patches ascend. No program in sight. -/
set_option linter.unusedSimpArgs false
set_option linter.unusedVariables false
set_option linter.unnecessarySimpa false
namespace Go.Tk
open Go Go.RowKit
theorem adj_pair : ∀ (l : List Int), (∀ i, i + 1 < l.length → l.getD i 0 < l.getD (i + 1) 0) → l.Pairwise (· < ·)
  | [], _ => .nil
  | [a], _ => by simp
  | a :: b :: l, h => by
    have ih := adj_pair (b :: l) fun i hi => by
      have := h (i + 1) (by simp at hi ⊢; omega)
      simpa using this
    have hab : a < b := by have := h 0 (by simp); simpa using this
    refine List.pairwise_cons.2 ⟨fun c hc => ?_, ih⟩
    rcases List.mem_cons.1 hc with rfl | hc
    · exact hab
    · have := (List.pairwise_cons.1 ih).1 c hc
      omega
theorem validX_asc {x : List Edt} (h : validX x = 0) : Asc (readE x) := by
  unfold validX at h
  split at h
  · omega
  · have ha := okTo_at _ (argErr_zero.1 h)
    have key : (x.map (·.1)).Pairwise (· < ·) := by
      refine adj_pair _ fun i hi => ?_
      rw [List.length_map] at hi
      have g := ha (i + 1) hi
      unfold edOK at g
      simp only [Nat.add_sub_cancel, Bool.not_eq_true', Bool.or_eq_false_iff, Bool.and_eq_false_iff, decide_eq_false_iff_not, Int.not_le] at g
      have e1 : (x.map (·.1)).getD i 0 = (x.getD i tEd.dflt).1 := by
        simp [List.getD_eq_getElem?_getD, show i < x.length by omega]
      have e2 : (x.map (·.1)).getD (i + 1) 0 = (x.getD (i + 1) tEd.dflt).1 := by
        simp [List.getD_eq_getElem?_getD, hi]
      rw [e1, e2]
      have := g.1.2
      simp at this
      omega
    unfold Asc readE
    rw [List.pairwise_map] at key ⊢
    exact key
def bothX (x y : List Edt) : Int := if validX x = 0 then validX y else validX x
theorem bothX_ok {x y : List Edt} (h : bothX x y = 0) : validX x = 0 ∧ validX y = 0 := by
  unfold bothX at h
  split at h
  · exact ⟨by assumption, h⟩
  · exact absurd h (by assumption)
def editE (E : List (Int × Lin)) : List Edt := E.map fun p => (p.1, p.2, ())
def limE (E : List (Int × Lin)) : List Edt := if E.length > 4 then [] else editE E
def limN (E : List (Int × Lin)) : Int := if E.length > 4 then 3 else 0
end Go.Tk
/- Plain facts: filters in place, comparing. No program in sight. -/
set_option linter.unusedSimpArgs false
set_option linter.unusedVariables false
set_option linter.unnecessarySimpa false
namespace Go.Tk
open Go Go.RowKit

theorem idxF_cases {α : Type} (d : α) (p : α → Bool) (s : List α) : (idxF p s = -1 ∧ s.any p = false) ∨ ∃ k, k < s.length ∧ idxF p s = (k : Int) ∧ (s.take k).any p = false ∧ p (s.getD k d) = true := by
  have key : ∀ i, i ≤ s.length → (s.take i).any p = false → (idxF p s = -1 ∧ s.any p = false) ∨ ∃ k, k < s.length ∧ idxF p s = (k : Int) ∧ (s.take k).any p = false ∧ p (s.getD k d) = true := by
    refine upto ?_ ?_
    · intro ha
      rw [List.take_length] at ha
      exact .inl ⟨idxF_none ha, ha⟩
    · intro i hi ih ha
      cases hv : p (s.getD i d)
      · exact ih (any_take_next d hi ha hv)
      · exact .inr ⟨i, hi, idxF_at d hi ha hv, ha, hv⟩
  exact key 0 (Nat.zero_le _) rfl

/-! ### DeleteFunc -/
def keepK {α : Type} (p : α → Bool) (s : List α) (j : Nat) : List α := (s.take j).filter fun r => !p r
theorem keepK_all {α : Type} (p : α → Bool) (s : List α) : keepK p s s.length = s.filter fun r => !p r := by unfold keepK; rw [List.take_length]
theorem keepK_len {α : Type} (p : α → Bool) (s : List α) (j : Nat) : (keepK p s j).length ≤ j := by
  unfold keepK
  exact Nat.le_trans (List.length_filter_le ..) (by rw [List.length_take]; omega)
theorem keepK_succ {α : Type} (d : α) (p : α → Bool) {s : List α} {j : Nat} (hj : j < s.length) : keepK p s (j + 1) = if p (s.getD j d) = true then keepK p s j else keepK p s j ++ [s.getD j d] := by
  unfold keepK
  rw [take_snoc d hj, List.filter_append]
  cases h : p (s.getD j d)
  · have : List.filter (fun r => !p r) [s.getD j d] = [s.getD j d] := by rw [List.filter_cons_of_pos (by rw [h]; rfl)]; rfl
    rw [this]; simp
  · have : List.filter (fun r => !p r) [s.getD j d] = [] := by rw [List.filter_cons_of_neg (by rw [h]; simp)]; rfl
    rw [this]; simp
theorem keepK_none {α : Type} {p : α → Bool} {s : List α} {j : Nat} (h : (s.take j).any p = false) : keepK p s j = s.take j := by
  unfold keepK
  rw [List.filter_eq_self]
  intro a ha
  have := List.any_eq_false.1 h a ha
  simpa using this
theorem filter_none {α : Type} {p : α → Bool} {s : List α} (h : s.any p = false) : (s.filter fun r => !p r) = s := by
  have := keepK_none (p := p) (s := s) (j := s.length) (by rw [List.take_length]; exact h)
  rw [keepK_all, List.take_length] at this
  exact this

/-- What the loop of DeleteFunc keeps. -/
structure DelI {α : Type} (p : α → Bool) (s s1 : List α) (j : Nat) : Prop where
  len : s1.length = s.length
  lt : (keepK p s j).length < j
  fst : s1.take (keepK p s j).length = keepK p s j
  rest : s1.drop j = s.drop j

theorem DelI.start {α : Type} (d : α) {p : α → Bool} {s : List α} {k : Nat} (hk : k < s.length) (h1 : (s.take k).any p = false) (h2 : p (s.getD k d) = true) : DelI p s s (k + 1) ∧ (keepK p s (k + 1)).length = k := by
  have e : keepK p s (k + 1) = s.take k := by rw [keepK_succ d p hk, if_pos h2, keepK_none h1]
  have l : (s.take k).length = k := by rw [List.length_take]; omega
  exact ⟨⟨rfl, by rw [e, l]; omega, by rw [e, l], rfl⟩, by rw [e, l]⟩
theorem DelI.get {α : Type} {d : α} {p : α → Bool} {s s1 : List α} {j : Nat} (h : DelI p s s1 j) (hj : j < s.length) : s1.getD j d = s.getD j d := by
  have h1 : (s1.drop j)[0]? = (s.drop j)[0]? := by rw [h.rest]
  simp only [List.getElem?_drop, Nat.add_zero] at h1
  rw [List.getD_eq_getElem?_getD, List.getD_eq_getElem?_getD, h1]
theorem DelI.keep {α : Type} {d : α} {p : α → Bool} {s s1 : List α} {j : Nat} (h : DelI p s s1 j) (hj : j < s.length) (hp : p (s.getD j d) = false) : DelI p s (s1.set (keepK p s j).length (s.getD j d)) (j + 1) ∧ (keepK p s (j + 1)).length = (keepK p s j).length + 1 := by
  have e : keepK p s (j + 1) = keepK p s j ++ [s.getD j d] := by rw [keepK_succ d p hj, if_neg (by rw [hp]; simp)]
  have hl : (keepK p s (j + 1)).length = (keepK p s j).length + 1 := by rw [e]; simp
  have hlt := h.lt
  refine ⟨⟨by rw [List.length_set]; exact h.len, by omega, ?_, ?_⟩, hl⟩
  · rw [hl, e, take_snoc d (by rw [List.length_set, h.len]; omega), List.take_set_of_le (Nat.le_refl _), h.fst]
    congr 1
    simp [List.getElem?_set, h.len, show (keepK p s j).length < s.length by omega]
  · rw [List.drop_set_of_lt (by omega)]
    have := congrArg (List.drop 1) h.rest
    simpa [List.drop_drop] using this
theorem DelI.skip {α : Type} {d : α} {p : α → Bool} {s s1 : List α} {j : Nat} (h : DelI p s s1 j) (hj : j < s.length) (hp : p (s.getD j d) = true) : DelI p s s1 (j + 1) ∧ keepK p s (j + 1) = keepK p s j := by
  have e : keepK p s (j + 1) = keepK p s j := by rw [keepK_succ d p hj, if_pos hp]
  have hlt := h.lt
  refine ⟨⟨h.len, by rw [e]; omega, by rw [e]; exact h.fst, ?_⟩, e⟩
  have := congrArg (List.drop 1) h.rest
  simpa [List.drop_drop] using this

/-! ### The search for a cover -/
def cmpI (x y : Int) : Int := if x < y then -1 else if x > y then 1 else 0
def cmpL : List Int → List Int → Int
  | [], [] => 0
  | [], _ :: _ => -1
  | _ :: _, [] => 1
  | x :: a, y :: b => if x = y then cmpL a b else cmpI x y

theorem cmpL_drop {a b : List Int} : ∀ i, a.take i = b.take i → i ≤ a.length → i ≤ b.length → cmpL a b = cmpL (a.drop i) (b.drop i)
  | 0, _, _, _ => rfl
  | i + 1, h, ha, hb => by
    cases a with
    | nil => simp at ha
    | cons x a => cases b with
      | nil => simp at hb
      | cons y b =>
        simp only [List.take_succ_cons, List.cons.injEq] at h
        simp only [List.drop_succ_cons]
        rw [show cmpL (x :: a) (y :: b) = if x = y then cmpL a b else cmpI x y from rfl, if_pos h.1]
        exact cmpL_drop i h.2 (by simpa using ha) (by simpa using hb)

theorem cmpL_at {a b : List Int} {i : Nat} (h : a.take i = b.take i) (ha : i < a.length) (hb : i < b.length) (hne : a.getD i 0 ≠ b.getD i 0) : cmpL a b = cmpI (a.getD i 0) (b.getD i 0) := by
  rw [cmpL_drop i h (by omega) (by omega)]
  have e1 : a.drop i = a.getD i 0 :: a.drop (i + 1) := by rw [List.drop_eq_getElem_cons ha]; simp [List.getD_eq_getElem?_getD, ha]
  have e2 : b.drop i = b.getD i 0 :: b.drop (i + 1) := by rw [List.drop_eq_getElem_cons hb]; simp [List.getD_eq_getElem?_getD, hb]
  rw [e1, e2]
  show (if _ = _ then _ else _) = _
  rw [if_neg hne]
theorem cmpL_gt {a b : List Int} {i : Nat} (h : a.take i = b.take i) (ha : i < a.length) (hb : b.length ≤ i) (hb2 : i ≤ b.length) : cmpL a b = 1 := by
  rw [cmpL_drop i h (by omega) hb2]
  have e1 : a.drop i = a.getD i 0 :: a.drop (i + 1) := by rw [List.drop_eq_getElem_cons ha]; simp [List.getD_eq_getElem?_getD, ha]
  have e2 : b.drop i = [] := List.drop_eq_nil_of_le hb
  rw [e1, e2]; rfl
theorem cmpL_end {a b : List Int} (h : a.take a.length = b.take a.length) (hb : a.length ≤ b.length) : cmpL a b = if a.length < b.length then -1 else 0 := by
  rw [cmpL_drop a.length h (Nat.le_refl _) hb]
  have e1 : a.drop a.length = [] := by simp
  rw [e1]
  split
  · rename_i hl
    have e2 : b.drop a.length = b.getD a.length 0 :: b.drop (a.length + 1) := by rw [List.drop_eq_getElem_cons hl]; simp [List.getD_eq_getElem?_getD, hl]
    rw [e2]; rfl
  · have e2 : b.drop a.length = [] := List.drop_eq_nil_of_le (by omega)
    rw [e2]; rfl

end Go.Tk
/- Plain facts of layer 4: what the functions answer. No program in sight. -/
set_option linter.unusedSimpArgs false
set_option linter.unusedVariables false
set_option linter.unnecessarySimpa false
namespace Go.Tk
open Go Go.RowKit
def errXT (p : List Lin) (x : List Edt) (l : List Tst) : Int := if validP p = 0 then (if validX x = 0 then (if validT l = 0 then (if far p.length x = true then 4 else 0) else validT l) else validX x) else validP p
def errX (p : List Lin) (x : List Edt) : Int := errXT p x []
theorem errXT_ok {p : List Lin} {x : List Edt} {l : List Tst} (h : errXT p x l = 0) : validP p = 0 ∧ validX x = 0 ∧ validT l = 0 ∧ inX p.length x := by
  unfold errXT at h
  split at h
  · rename_i h1
    split at h
    · rename_i h2
      split at h
      · rename_i h3
        split at h
        · cases h
        · rename_i h4
          refine ⟨h1, h2, h3, fun e he => ?_⟩
          have := List.any_eq_false.1 (Bool.eq_false_iff.2 h4) e he
          have h5 := (validX_ok h2).2 e he
          simp at this
          omega
      · rename_i h3; exact absurd h h3
    · rename_i h2; exact absurd h h2
  · rename_i h1; exact absurd h h1
theorem errXT_mk {p : List Lin} {x : List Edt} {l : List Tst} (h1 : validP p = 0) (h2 : validX x = 0) (h3 : validT l = 0) (h4 : inX p.length x) : errXT p x l = 0 := by
  unfold errXT
  rw [if_pos h1, if_pos h2, if_pos h3, if_neg]
  unfold far
  rw [Bool.not_eq_true, List.any_eq_false]
  intro e he
  have := h4 e he
  simp; omega
theorem validT_nil : validT [] = 0 := rfl
theorem errX_ok {p : List Lin} {x : List Edt} (h : errX p x = 0) : validP p = 0 ∧ validX x = 0 ∧ inX p.length x := ⟨(errXT_ok h).1, (errXT_ok h).2.1, (errXT_ok h).2.2.2⟩
theorem errX_mk {p : List Lin} {x : List Edt} (h1 : validP p = 0) (h2 : validX x = 0) (h4 : inX p.length x) : errX p x = 0 := errXT_mk h1 h2 validT_nil h4
theorem errXT_X {p : List Lin} {x : List Edt} {l : List Tst} (h : errXT p x l = 0) : errX p x = 0 := errX_mk (errXT_ok h).1 (errXT_ok h).2.1 (errXT_ok h).2.2.2
theorem validX_line4 {x : List Edt} (h : validX x = 0) : ∀ e ∈ x, validLine e.2.1 = true := by
  intro e he
  unfold validX at h
  split at h
  · omega
  · obtain ⟨i, hi, rfl⟩ := List.getElem_of_mem he
    have g := okTo_at _ (argErr_zero.1 h) i hi
    unfold edOK at g
    have ee : x.getD i tEd.dflt = x[i] := by simp [List.getD_eq_getElem?_getD, hi]
    rw [ee] at g
    simp at g
    exact g.2
theorem playX_all4 (x : List Edt) : ∀ p : List Lin, p.all validLine = true → (∀ e ∈ x, validLine e.2.1 = true) → (playX p x).all validLine = true := by
  induction x with
  | nil => intro p hp _; exact hp
  | cons e x ih =>
    intro p hp hx
    refine ih _ ?_ fun q hq => hx q (List.mem_cons_of_mem _ hq)
    rw [List.all_eq_true] at hp ⊢
    intro l hl
    rcases List.mem_or_eq_of_mem_set hl with g | g
    · exact hp l g
    · rw [g]; exact hx e List.mem_cons_self
theorem playX_valid {p : List Lin} {x : List Edt} (h1 : validP p = 0) (h2 : ∀ e ∈ x, validLine e.2.1 = true) : validP (playX p x) = 0 := by
  obtain ⟨h8, hall⟩ := validP_ok h1
  unfold validP
  rw [playX_len, if_neg (by omega), playX_all4 x p hall h2]; rfl
theorem errX_play {p : List Lin} {x : List Edt} (h : errX p x = 0) : validP (playX p x) = 0 := playX_valid (errX_ok h).1 (validX_line4 (errX_ok h).2.1)
def invE (p : List Lin) (e : Edt) : Edt := (e.1, p.getD e.1.toNat tL.dflt, ())
def invX (p : List Lin) (x : List Edt) : List Edt := x.map (invE p)
def fieldsN (l m : Lin) : Int := (if l.1 = m.1 then 0 else 1) + ((if l.2.1 = m.2.1 then 0 else 1) + ((if l.2.2.1 = m.2.2.1 then 0 else 1) + (if l.2.2.2.1 = m.2.2.2.1 then 0 else 1)))
theorem fieldsN_bd (l m : Lin) : 0 ≤ fieldsN l m ∧ fieldsN l m ≤ 4 := by unfold fieldsN; split <;> split <;> split <;> split <;> omega
theorem fieldsN_zero {l m : Lin} : fieldsN l m = 0 ↔ l = m := by
  obtain ⟨a1, a2, a3, a4, ⟨⟩⟩ := l
  obtain ⟨b1, b2, b3, b4, ⟨⟩⟩ := m
  unfold fieldsN
  simp only [Prod.mk.injEq, and_true]
  split <;> split <;> split <;> split <;> simp_all
def sizeX (p : List Lin) : List Edt → Int
  | [] => 0
  | e :: x => fieldsN (p.getD e.1.toNat tL.dflt) e.2.1 + sizeX p x
theorem sizeX_app (p : List Lin) (x y : List Edt) : sizeX p (x ++ y) = sizeX p x + sizeX p y := by
  induction x with
  | nil => simp [sizeX]
  | cons e x ih => rw [List.cons_append, sizeX, ih, sizeX]; omega
theorem sizeX_take {p : List Lin} {x : List Edt} {i : Nat} (h : i < x.length) : sizeX p (x.take (i + 1)) = sizeX p (x.take i) + fieldsN (p.getD (x.getD i tEd.dflt).1.toNat tL.dflt) (x.getD i tEd.dflt).2.1 := by
  rw [take_snoc tEd.dflt h, sizeX_app]; simp [sizeX]
theorem sizeX_bd (p : List Lin) (x : List Edt) : 0 ≤ sizeX p x ∧ sizeX p x ≤ 4 * x.length := by
  induction x with
  | nil => simp [sizeX]
  | cons e x ih =>
    have := fieldsN_bd (p.getD e.1.toNat tL.dflt) e.2.1
    rw [sizeX, List.length_cons]; omega
def sameE (p : List Lin) (e : Edt) : Bool := decide (p.getD e.1.toNat tL.dflt = e.2.1)
def cleanX (p : List Lin) (x : List Edt) : List Edt := x.filter fun e => !(sameE p e)
def okPl (at_ : List Int) : Nat → Bool
  | 0 => true
  | i + 1 => okPl at_ i && !(decide (at_.getD i 0 < 0) || decide (at_.getD i 0 ≥ 8) || (decide (i > 0) && decide (at_.getD (i - 1) 0 ≥ at_.getD i 0)))
theorem okPl_false {a : List Int} {i : Nat} (h : okPl a (i + 1) = false) : ∀ n, i < n → okPl a n = false
  | 0, hn => by omega
  | n + 1, hn => by
    by_cases e : i = n
    · subst e; exact h
    · unfold okPl
      rw [okPl_false h n (by omega), Bool.false_and]
def keepN (x : List Edt) (at_ : List Int) : Int := if validX x = 0 then argErr (okPl at_ at_.length) else validX x
def keepX (x : List Edt) (at_ : List Int) : List Edt := if keepN x at_ = 0 then x.filter fun e => decide (e.1 ∈ at_) else []
def threeL (b a c : List Lin) (i : Nat) : Lin := if c.getD i tL.dflt = b.getD i tL.dflt ∨ a.getD i tL.dflt = c.getD i tL.dflt then a.getD i tL.dflt else if a.getD i tL.dflt = b.getD i tL.dflt then c.getD i tL.dflt else b.getD i tL.dflt
def threeC (b a c : List Lin) (i : Nat) : Bool := !(decide (c.getD i tL.dflt = b.getD i tL.dflt) || decide (a.getD i tL.dflt = c.getD i tL.dflt) || decide (a.getD i tL.dflt = b.getD i tL.dflt))
def threeP (b a c : List Lin) (n : Nat) : List Lin := (List.range n).map (threeL b a c)
def threeI (b a c : List Lin) (n : Nat) : List Int := ((List.range n).filter (threeC b a c)).map fun (i : Nat) => (i : Int)
theorem threeP_len (b a c : List Lin) (n : Nat) : (threeP b a c n).length = n := by simp [threeP]
theorem threeI_len (b a c : List Lin) (n : Nat) : (threeI b a c n).length ≤ n := by
  unfold threeI
  rw [List.length_map]
  exact Nat.le_trans (List.length_filter_le _ _) (by simp)
theorem threeP_succ (b a c : List Lin) (n : Nat) : threeP b a c (n + 1) = threeP b a c n ++ [threeL b a c n] := by
  unfold threeP; rw [List.range_succ, List.map_append]; rfl
theorem threeI_succ (b a c : List Lin) (n : Nat) : threeI b a c (n + 1) = if threeC b a c n = true then threeI b a c n ++ [(n : Int)] else threeI b a c n := by
  unfold threeI
  rw [List.range_succ, List.filter_append, List.map_append]
  by_cases h : threeC b a c n = true
  · rw [if_pos h, List.filter_cons_of_pos h, List.filter_nil]; rfl
  · rw [if_neg h, List.filter_cons_of_neg h, List.filter_nil, List.map_nil, List.append_nil]
def err3 (b a c : List Lin) : Int := if validP b = 0 then (if validP a = 0 then validP c else validP a) else validP b
def threeN (b a c : List Lin) : Int := if err3 b a c = 0 then (if a.length = b.length ∧ c.length = b.length then 0 else 9) else err3 b a c
def turnedL (p q : List Lin) (l : List Tst) : List Int := (failL p l).filter fun i => decide (i ∈ whereL (passT q) l)
def goodX (p : List Lin) (x : List Edt) (l : List Tst) : Bool := (failL (playX p x) l).isEmpty
theorem upd_len {α : Type} (f : α → α) (l : List α) (i : Nat) : ((l.take i).map f ++ l.drop i).length = l.length := by simp; omega
theorem upd_get {α : Type} (f : α → α) (l : List α) (d : α) {i : Nat} (h : i < l.length) : ((l.take i).map f ++ l.drop i).getD i d = l.getD i d := by
  rw [List.getD_eq_getElem?_getD, List.getElem?_append_right (by simp; omega), List.length_map, List.length_take, Nat.min_eq_left (by omega), Nat.sub_self, List.getElem?_drop, Nat.add_zero, ← List.getD_eq_getElem?_getD]
theorem upd_set {α : Type} (f : α → α) (l : List α) (d : α) {i : Nat} (h : i < l.length) : ((l.take i).map f ++ l.drop i).set i (f (l.getD i d)) = (l.take (i + 1)).map f ++ l.drop (i + 1) := by
  rw [List.set_append_right _ _ (by simp; omega), take_snoc d h, List.map_append, List.append_assoc, List.length_map, List.length_take, Nat.min_eq_left (by omega), Nat.sub_self]
  congr 1
  rw [List.drop_eq_getElem_cons h, List.set_cons_zero]
  rfl
theorem three_out (b a c : List Lin) (base : List Lin) {i : Nat} (h : i < base.length) (v : Lin) (hv : v = threeL b a c i) : (threeP b a c i ++ base.drop i).set i v = threeP b a c (i + 1) ++ base.drop (i + 1) := by
  rw [List.set_append_right _ _ (by simp [threeP_len]), threeP_len, Nat.sub_self, threeP_succ, hv, List.append_assoc]
  congr 1
  rw [List.drop_eq_getElem_cons h, List.set_cons_zero]
  rfl
theorem three_keep (a c : List Lin) (base : List Lin) {i : Nat} (h : i < base.length) (hv : base.getD i tL.dflt = threeL base a c i) : threeP base a c i ++ base.drop i = threeP base a c (i + 1) ++ base.drop (i + 1) := by
  rw [threeP_succ, ← hv, List.append_assoc]
  congr 1
  rw [List.drop_eq_getElem_cons h, List.getD_eq_getElem?_getD, List.getElem?_eq_getElem h]
  rfl
theorem count_take {l : List Bool} {i : Nat} (h : i < l.length) : (((l.take (i + 1)).count true : Nat) : Int) = ((l.take i).count true : Nat) + (if l.getD i false = true then 1 else 0) := by
  rw [take_snoc false h, List.count_append]
  cases l.getD i false <;> simp
theorem fields_count (l m : Lin) : (([l.1 != m.1, l.2.1 != m.2.1, l.2.2.1 != m.2.2.1, l.2.2.2.1 != m.2.2.2.1].count true : Nat) : Int) = fieldsN l m := by
  unfold fieldsN
  have hb : ∀ a b : Int, (if ((a != b) == true) = true then 1 else 0 : Nat) = if a = b then 0 else 1 := by
    intro a b
    by_cases h : a = b <;> simp [h]
  simp only [List.count_cons, List.count_nil, hb]
  split <;> split <;> split <;> split <;> rfl
theorem or_three (a b c : Int) : (([a, b, c].find? fun e' => !(e' == 0)).getD 0) = if a = 0 then (if b = 0 then c else b) else a := by
  by_cases h : a = 0
  · rw [if_pos h]
    by_cases h2 : b = 0
    · rw [if_pos h2]
      by_cases h3 : c = 0
      · simp [h, h2, h3]
      · simp [h, h2, h3]
    · rw [if_neg h2]; simp [h, h2]
  · rw [if_neg h]; simp [h]
end Go.Tk
