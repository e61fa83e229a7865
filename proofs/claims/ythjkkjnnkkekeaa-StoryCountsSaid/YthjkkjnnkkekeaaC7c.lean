import Derived.Test.YthjkkjnnkkekeaaP7c
set_option linter.unusedSimpArgs false
set_option linter.unusedVariables false
set_option linter.unnecessarySimpa false
namespace Go.Tk
open Go Go.RowKit
def bitQ (t k : Int) : Int := IntKind.i64.wrap (BitVec.ofInt 64 (Int.fdiv t (2 ^ (Int.toNat k))) &&& BitVec.ofInt 64 (1 : Int)).toNat
def orQ (t n : Int) : Int := IntKind.i64.wrap (BitVec.ofInt 64 t ||| BitVec.ofInt 64 ((1 : Int) * 2 ^ (Int.toNat n))).toNat
theorem bitQ_all : ∀ t : Nat, t < 256 → ∀ k : Nat, k < 8 → bitQ t k = if t.testBit k = true then 1 else 0 := by decide +kernel
theorem orQ_all : ∀ t : Nat, t < 256 → ∀ n : Nat, n < 8 → orQ t n = ((t ||| 2 ^ n : Nat) : Int) := by decide +kernel
theorem powQ (n : Nat) : (1 : Int) * 2 ^ (Int.toNat (n : Int)) = ((2 ^ n : Nat) : Int) := by
  rw [Int.one_mul, Int.toNat_natCast, Int.natCast_pow]; rfl
theorem inI_pow {n : Nat} (h : n < 8) : inI ((1 : Int) * 2 ^ (Int.toNat (n : Int))) := by
  rw [powQ]
  have := pow_le8 (N := n) (by omega)
  generalize 2 ^ n = q at this ⊢
  unfold inI; omega
def cntV (p : List Lin) (h : List (List Edt)) : Int := if err7 p h = 0 then (cntL h : Int) else 0
def lastO (p : List Lin) (h : List (List Edt)) : List Int := if err7 p h = 0 then lastL h else []
/-- What the table holds. -/
def Tab (fr : Nat → Nat → Bool) (N t n : Nat) (W : List Int) : Prop := W.length = 2 ^ N ∧ ∀ s, s < 2 ^ N → W.getD s 0 = (part fr N t n s : Int)
theorem Tab.start (fr : Nat → Nat → Bool) (N : Nat) : Tab fr N 0 0 ((List.replicate (2 ^ N) (0 : Int)).set 0 1) := by
  refine ⟨by simp, fun s hs => ?_⟩
  rw [getD_setL (by simp; exact Nat.two_pow_pos _), part_zero]
  by_cases e : s = 0
  · subst e; simp
  · rw [if_neg (fun q => e q.symm), if_neg e]
    simp [List.getD_eq_getElem?_getD, List.getElem?_replicate, hs]
theorem Tab.step {fr : Nat → Nat → Bool} {N t n : Nat} {W : List Int} (h : Tab fr N t n W) (hN : N ≤ 8) (hn : n < N) (ht : t < 2 ^ N) (hf : fr t n = true) (hb : fr t n = true → t.testBit n = false) : Tab fr N t (n + 1) (W.set (t ||| 2 ^ n) (W.getD (t ||| 2 ^ n) 0 + W.getD t 0)) := by
  have p8 := pow_le8 hN
  have hu := or_lt ht hn
  refine ⟨by simpa using h.1, fun s hs => ?_⟩
  rw [getD_setL (by rw [h.1]; exact hu), part_step hN hn (by omega) (by omega) hb, h.2 _ hu, h.2 _ ht, part_full hN (by omega) (Nat.le_refl t)]
  by_cases e : t ||| 2 ^ n = s
  · subst e; rw [if_pos rfl, if_pos ⟨rfl, hf⟩]; omega
  · rw [if_neg e, if_neg (fun q => e q.1.symm), h.2 _ hs]; omega
theorem Tab.skip {fr : Nat → Nat → Bool} {N t n : Nat} {W : List Int} (h : Tab fr N t n W) (hN : N ≤ 8) (hn : n < N) (ht : t < 2 ^ N) (hf : fr t n = false ∨ cnt fr N t = 0) (hb : fr t n = true → t.testBit n = false) : Tab fr N t (n + 1) W := by
  have p8 := pow_le8 hN
  refine ⟨h.1, fun s hs => ?_⟩
  rw [part_step hN hn (by omega) (by omega) hb, h.2 _ hs]
  rcases hf with hf | hf
  · rw [if_neg (fun q => by rw [hf] at q; cases q.2)]; omega
  · rw [hf]; split <;> omega
theorem Tab.next {fr : Nat → Nat → Bool} {N t : Nat} {W : List Int} (h : Tab fr N t N W) : Tab fr N (t + 1) 0 W := ⟨h.1, fun s hs => by rw [h.2 s hs, part_next]⟩
theorem Tab.bd {fr : Nat → Nat → Bool} {N t n : Nat} {W : List Int} (h : Tab fr N t n W) (hN : N ≤ 8) {s : Nat} (hs : s < 2 ^ N) : 0 ≤ W.getD s 0 ∧ W.getD s 0 ≤ 16777216 := by
  have p8 := pow_le8 hN
  rw [h.2 s hs]
  have := part_le (fr := fr) (s := s) hN (by omega) t n
  have := cnt_small (fr := fr) (t := s) hN (by omega)
  omega
theorem Tab.at {fr : Nat → Nat → Bool} {N t n : Nat} {W : List Int} (h : Tab fr N t n W) (hN : N ≤ 8) (ht : t < 2 ^ N) : W.getD t 0 = (cnt fr N t : Int) := by
  have p8 := pow_le8 hN
  rw [h.2 t ht, part_full hN (by omega) (Nat.le_refl t)]
theorem Tab.fin {fr : Nat → Nat → Bool} {N : Nat} {W : List Int} (h : Tab fr N (2 ^ N) 0 W) (hN : N ≤ 8) : W.getD (seg N) 0 = (cnt fr N (seg N) : Int) := by
  have p8 := pow_le8 hN
  have := seg_lt (Nat.le_refl N)
  rw [h.2 _ this, part_full hN (by omega) (by omega)]

abbrev cFree71G : Con := { A := (.cons .int (.cons (.ref .int) .nil)), R := (.cons .bool .nil), pre := fun x => 0 ≤ x.1 ∧ x.1 < 8 ∧ 0 ≤ x.2.1 ∧ x.2.1 < 256, F := fun x => (!((Int.toNat x.2.1).testBit (Int.toNat x.1)), ()) }
def cFree71G_0  (k : Int) (c0 : Int) (y0 : Bool) : Prop :=
  (0 ≤ k ∧ k < 64) ∧ (True ∧ (((IntKind.i64.wrap (BitVec.ofInt 64 (Int.fdiv c0 (2 ^ (Int.toNat k))) &&& BitVec.ofInt 64 (1 : Int)).toNat) == (0 : Int)) = y0 ∧ True))
theorem cFree71G_law (h : ∀ (k : Int) (c0 : Int), cFree71G.A.wf (k, c0, ()) → (0 ≤ k ∧ k < 8 ∧ 0 ≤ c0 ∧ c0 < 256) → cFree71G_0  k c0 (!((Int.toNat c0).testBit (Int.toNat k)))) : ConOK Go.Proofs.Try.prog 104 cFree71G := by
  refine lawL (Γ := []) (Θ := Th) (n := 9) [] trivial (by kernel_rfl) th_ok mix_ok Go.Proofs.Try.func104 (by kernel_rfl) ?_
  intro x hw hp Λ hC
  have h0 := h x.1 x.2.1 hw hp  
  exact Eq.mpr (by kernel_rfl) h0
theorem cFree71G_ok : ConOK Go.Proofs.Try.prog 104 cFree71G := by
  refine cFree71G_law ?_
  intro k c0 hw hp
  unfold cFree71G_0
  obtain ⟨p1, p2, p3, p4⟩ := hp
  obtain ⟨K, rfl⟩ := Int.eq_ofNat_of_zero_le p1
  obtain ⟨T, rfl⟩ := Int.eq_ofNat_of_zero_le p3
  refine ⟨⟨p1, by omega⟩, trivial, ?_, trivial⟩
  show (bitQ T K == 0) = !(T.testBit K)
  rw [bitQ_all T (by omega) K (by omega)]
  cases T.testBit K <;> rfl
abbrev cFree7G : Con := { A := (.cons (.sl (.sl tEd)) (.cons .int (.cons .int .nil))), R := (.cons .bool .nil), pre := fun x => 0 ≤ x.2.2.1 ∧ x.2.2.1 < (x.1.length : Int) ∧ x.1.length ≤ 8 ∧ 0 ≤ x.2.1 ∧ x.2.1 < 256, F := fun x => (frD x.1 (Int.toNat x.2.1) (Int.toNat x.2.2.1), ()) }
def cFree7G_0  (h : (List (List Edt))) (done : Int) (n : Int) (y0 : Bool) : Prop :=
  (0 ≤ n ∧ n < 64) ∧ (True ∧ (if ((IntKind.i64.wrap (BitVec.ofInt 64 (Int.fdiv done (2 ^ (Int.toNat n))) &&& BitVec.ofInt 64 (1 : Int)).toNat) == (0 : Int)) = true then ((0 ≤ n ∧ n < (h.length : Int) ∧ h.length ≤ 8) ∧ ((∀ r' ∈ (dirTo h n (Int.toNat n)), (fun (xx : (Int × Unit)) => 0 ≤ xx.1 ∧ xx.1 < 8 ∧ 0 ≤ done ∧ done < 256, fun (xx : (Int × Unit)) => (!((Int.toNat done).testBit (Int.toNat xx.1)), ())).1 (r', ())) ∧ (True ∧ ((bif true then (!((dirTo h n (Int.toNat n)).any (fun r' => ((fun (xx : (Int × Unit)) => 0 ≤ xx.1 ∧ xx.1 < 8 ∧ 0 ≤ done ∧ done < 256, fun (xx : (Int × Unit)) => (!((Int.toNat done).testBit (Int.toNat xx.1)), ())).2 (r', ())).1))) else false) = y0 ∧ True)))) else (false = false ∧ (false = y0 ∧ True))))
theorem cFree7G_law (h : ∀ (h : (List (List Edt))) (done : Int) (n : Int), cFree7G.A.wf (h, done, n, ()) → (0 ≤ n ∧ n < (h.length : Int) ∧ h.length ≤ 8 ∧ 0 ≤ done ∧ done < 256) → cFree7G_0  h done n (frD h (Int.toNat done) (Int.toNat n))) : ConOK Go.Proofs.Try.prog 83 cFree7G := by
  refine lawX (X := { subs := [], frz := [4], U := [], mul := [], nst := [], nls := [], itf := none }) (hX := xok0 _) (Γ := [(103, cContI2), (67, cDirect0), (104, cFree71G)]) (Θ := Th) (n := 20) [] ⟨cContI2_ok, cDirect0_ok, cFree71G_ok, trivial⟩ (by kernel_rfl) th_ok mix_ok Go.Proofs.Try.func83 (by kernel_rfl) ?_
  intro x hw hp Λ hC
  have h0 := h x.1 x.2.1 x.2.2.1 hw hp  
  exact Eq.mpr (by kernel_rfl) h0
theorem cFree7G_ok : ConOK Go.Proofs.Try.prog 83 cFree7G := by
  refine cFree7G_law ?_
  intro h done n hw hp
  unfold cFree7G_0
  obtain ⟨p1, p2, p3, p4, p5⟩ := hp
  obtain ⟨N, rfl⟩ := Int.eq_ofNat_of_zero_le p1
  obtain ⟨T, rfl⟩ := Int.eq_ofNat_of_zero_le p4
  refine ⟨⟨p1, by omega⟩, trivial, ?_⟩
  show if (bitQ T N == 0) = true then _ else _
  rw [bitQ_all T (by omega) N (by omega)]
  have hm : ∀ x, x ∈ dirTo h (N : Int) N ↔ ∃ k : Nat, k < N ∧ x = (k : Int) ∧ tch h k N = true := fun x => by rw [dirTo_sel, selTo_mem]
  cases hb : T.testBit N
  · rw [if_pos (by rfl)]
    refine ⟨⟨p1, p2, p3⟩, fun k hk => ?_, trivial, ?_, trivial⟩
    · obtain ⟨j, j1, j2, j3⟩ := (hm k).1 hk
      exact ⟨by show 0 ≤ k; omega, by show k < 8; omega, p4, p5⟩
    · show (!((dirTo h (N : Int) N).any fun r => !(T.testBit r.toNat))) = frD h T N
      rw [Bool.eq_iff_iff, frD_iff, Bool.not_eq_true', List.any_eq_false]
      constructor
      · intro q
        refine ⟨hb, fun k hk ht => ?_⟩
        have := q (k : Int) ((hm k).2 ⟨k, hk, rfl, ht⟩)
        simpa using this
      · rintro ⟨_, q⟩ x hx
        obtain ⟨k, k1, k2, k3⟩ := (hm x).1 hx
        subst k2
        rw [Int.toNat_natCast, q k k1 k3]; simp
  · rw [if_neg (by simp)]
    refine ⟨rfl, ?_, trivial⟩
    show false = frD h T N
    unfold frD; rw [hb]; rfl
abbrev cCountG : Con := { A := (.cons (.sl tL) (.cons (.sl (.sl tEd)) .nil)), R := (.cons .int (.cons .int .nil)), pre := fun x => True, F := fun x => (cntV x.1 x.2.1, err7 x.1 x.2.1, ()) }
def cCountG_0 (Λ1 : Int → (List Int) → Prop) (Λ2 : Int → Int → (List Int) → Prop) (p : (List Lin)) (h : (List (List Edt))) (y0 : Int) (y1 : Int) : Prop :=
  True ∧ (if ((err7 p h) != (0 : Int)) = true then ((0 : Int) = y0 ∧ (err7 p h) = y1 ∧ True) else ((0 ≤ (List.length h : Int) ∧ (List.length h : Int) < 64 ∧ inI ((1 : Int) * 2 ^ (Int.toNat (List.length h : Int)))) ∧ (mkLen ((1 : Int) * 2 ^ (Int.toNat (List.length h : Int))) ((1 : Int) * 2 ^ (Int.toNat (List.length h : Int))) ∧ (idx (0 : Int) (List.length (List.replicate (Int.toNat ((1 : Int) * 2 ^ (Int.toNat (List.length h : Int)))) (0 : Int)) : Int) ∧ Λ1 (0 : Int) (List.set (List.replicate (Int.toNat ((1 : Int) * 2 ^ (Int.toNat (List.length h : Int)))) (0 : Int)) (Int.toNat (0 : Int)) 1)))))
def cCountG_1 (Λ1 : Int → (List Int) → Prop) (Λ2 : Int → Int → (List Int) → Prop) (p : (List Lin)) (h : (List (List Edt))) (y0 : Int) (y1 : Int)  (t24_1 : Int) (ways_1 : (List Int)) : Prop :=
  if (decide (t24_1 < (List.length (List.set (List.replicate (Int.toNat ((1 : Int) * 2 ^ (Int.toNat (List.length h : Int)))) (0 : Int)) (Int.toNat (0 : Int)) 1) : Int))) = true then Λ2 t24_1 (0 : Int) ways_1 else (inI ((List.length ways_1 : Int) - (1 : Int)) ∧ (idx ((List.length ways_1 : Int) - (1 : Int)) (List.length ways_1 : Int) ∧ ((List.getD ways_1 (Int.toNat ((List.length ways_1 : Int) - (1 : Int))) 0) = y0 ∧ (0 : Int) = y1 ∧ True)))
def cCountG_2 (Λ1 : Int → (List Int) → Prop) (Λ2 : Int → Int → (List Int) → Prop) (p : (List Lin)) (h : (List (List Edt))) (y0 : Int) (y1 : Int) (t24_1 : Int) (t29_2 : Int) (ways_2 : (List Int)) : Prop :=
  if (decide (t29_2 < (List.length h : Int))) = true then (idx t24_1 (List.length ways_2 : Int) ∧ (if (decide ((List.getD ways_2 (Int.toNat t24_1) 0) > (0 : Int))) = true then ((0 ≤ t29_2 ∧ t29_2 < (h.length : Int) ∧ h.length ≤ 8 ∧ 0 ≤ t24_1 ∧ t24_1 < 256) ∧ (True ∧ (if (bif true then (frD h (Int.toNat t24_1) (Int.toNat t29_2)) else false) = true then ((0 ≤ t29_2 ∧ t29_2 < 64 ∧ inI ((1 : Int) * 2 ^ (Int.toNat t29_2))) ∧ (True ∧ (idx (IntKind.i64.wrap (BitVec.ofInt 64 t24_1 ||| BitVec.ofInt 64 ((1 : Int) * 2 ^ (Int.toNat t29_2))).toNat) (List.length ways_2 : Int) ∧ (idx t24_1 (List.length ways_2 : Int) ∧ (inI ((List.getD ways_2 (Int.toNat (IntKind.i64.wrap (BitVec.ofInt 64 t24_1 ||| BitVec.ofInt 64 ((1 : Int) * 2 ^ (Int.toNat t29_2))).toNat)) 0) + (List.getD ways_2 (Int.toNat t24_1) 0)) ∧ (idx (IntKind.i64.wrap (BitVec.ofInt 64 t24_1 ||| BitVec.ofInt 64 ((1 : Int) * 2 ^ (Int.toNat t29_2))).toNat) (List.length ways_2 : Int) ∧ (inI (t29_2 + (1 : Int)) ∧ Λ2 t24_1 (t29_2 + (1 : Int)) (List.set ways_2 (Int.toNat (IntKind.i64.wrap (BitVec.ofInt 64 t24_1 ||| BitVec.ofInt 64 ((1 : Int) * 2 ^ (Int.toNat t29_2))).toNat)) ((List.getD ways_2 (Int.toNat (IntKind.i64.wrap (BitVec.ofInt 64 t24_1 ||| BitVec.ofInt 64 ((1 : Int) * 2 ^ (Int.toNat t29_2))).toNat)) 0) + (List.getD ways_2 (Int.toNat t24_1) 0)))))))))) else (inI (t29_2 + (1 : Int)) ∧ Λ2 t24_1 (t29_2 + (1 : Int)) ways_2)))) else (false = false ∧ (inI (t29_2 + (1 : Int)) ∧ Λ2 t24_1 (t29_2 + (1 : Int)) ways_2)))) else (inI (t24_1 + (1 : Int)) ∧ Λ1 (t24_1 + (1 : Int)) ways_2)
theorem cCountG_law (h : ∀ (p : (List Lin)) (h : (List (List Edt))), cCountG.A.wf (p, h, ()) → ∀ (Λ1 : Int → (List Int) → Prop) (Λ2 : Int → Int → (List Int) → Prop), (∀ (t24_1 : Int) (ways_1 : (List Int)), cCountG_1 Λ1 Λ2 p h (cntV p h) (err7 p h) t24_1 ways_1 → Λ1 t24_1 ways_1) → (∀ (t24_1 : Int) (t29_2 : Int) (ways_2 : (List Int)), cCountG_2 Λ1 Λ2 p h (cntV p h) (err7 p h) t24_1 t29_2 ways_2 → Λ2 t24_1 t29_2 ways_2) → cCountG_0 Λ1 Λ2 p h (cntV p h) (err7 p h)) : ConOK Go.Proofs.Try.prog 40 cCountG := by
  refine lawL (Γ := [(83, cFree7G), (32, cVal7)]) (Θ := Th) (n := 64) [([1, 1, 1, 1, 0, 1, 0], ⟨[(1, false), (7, true), (23, true), (24, true)], [(19, true)]⟩), ([1, 1, 1, 1, 0, 1, 0, 0, 1, 1, 0, 0, 1, 1, 0], ⟨[(1, false), (7, true), (8, true), (23, true), (24, true), (28, true), (29, true)], [(19, true)]⟩)] ⟨cFree7G_ok, cVal7_ok, trivial⟩ (by kernel_rfl) th_ok mix_ok Go.Proofs.Try.func40 (by kernel_rfl) ?_
  intro x hw hp Λ hC
  have h0 := h x.1 x.2.1 hw (fun t24_1 ways_1 => Λ [1, 1, 1, 1, 0, 1, 0] ([(1, .d false (.sl (.sl tEd)) x.2.1), (7, .own 19 0), (23, .d true .int (List.length (List.set (List.replicate (Int.toNat ((1 : Int) * 2 ^ (Int.toNat (List.length x.2.1 : Int)))) (0 : Int)) (Int.toNat (0 : Int)) 1) : Int)), (24, .d true .int t24_1)], [(19, .sl true .int ways_1)])) (fun t24_1 t29_2 ways_2 => Λ [1, 1, 1, 1, 0, 1, 0, 0, 1, 1, 0, 0, 1, 1, 0] ([(1, .d false (.sl (.sl tEd)) x.2.1), (7, .own 19 0), (8, .d true .int t24_1), (23, .d true .int (List.length (List.set (List.replicate (Int.toNat ((1 : Int) * 2 ^ (Int.toNat (List.length x.2.1 : Int)))) (0 : Int)) (Int.toNat (0 : Int)) 1) : Int)), (24, .d true .int t24_1), (28, .d true .int (List.length x.2.1 : Int)), (29, .d true .int t29_2)], [(19, .sl true .int ways_2)])) (fun t24_1 ways_1 hb => hC [1, 1, 1, 1, 0, 1, 0] ([(1, .d false (.sl (.sl tEd)) x.2.1), (7, .own 19 0), (23, .d true .int (List.length (List.set (List.replicate (Int.toNat ((1 : Int) * 2 ^ (Int.toNat (List.length x.2.1 : Int)))) (0 : Int)) (Int.toNat (0 : Int)) 1) : Int)), (24, .d true .int t24_1)], [(19, .sl true .int ways_1)]) (Eq.mpr (by kernel_rfl) hb)) (fun t24_1 t29_2 ways_2 hb => hC [1, 1, 1, 1, 0, 1, 0, 0, 1, 1, 0, 0, 1, 1, 0] ([(1, .d false (.sl (.sl tEd)) x.2.1), (7, .own 19 0), (8, .d true .int t24_1), (23, .d true .int (List.length (List.set (List.replicate (Int.toNat ((1 : Int) * 2 ^ (Int.toNat (List.length x.2.1 : Int)))) (0 : Int)) (Int.toNat (0 : Int)) 1) : Int)), (24, .d true .int t24_1), (28, .d true .int (List.length x.2.1 : Int)), (29, .d true .int t29_2)], [(19, .sl true .int ways_2)]) (Eq.mpr (by kernel_rfl) hb))
  exact Eq.mpr (by kernel_rfl) h0
theorem cCountG_ok : ConOK Go.Proofs.Try.prog 40 cCountG := by
  refine cCountG_law ?_
  intro p h hw Λ1 Λ2 h1 h2
  unfold cCountG_0
  refine ⟨trivial, ?_⟩
  by_cases e : err7 p h = 0
  · rw [if_neg (by simp [e])]
    have h8 := (err7_ok e).2.1
    have p8 := pow_le8 h8
    have hb : ∀ t n, frD h t n = true → t.testBit n = false := fun t n q => (frD_iff.1 q).1
    rw [powQ, Int.toNat_natCast]
    have key : ∀ W, Tab (frD h) h.length 0 0 W → Λ1 (((0 : Nat) : Int)) W := by
      refine upto (n := 2 ^ h.length) (Q := fun t => ∀ W, Tab (frD h) h.length t 0 W → Λ1 (t : Int) W) ?_ ?_ 0 (Nat.zero_le _)
      · intro W hW
        apply h1; unfold cCountG_1
        rw [powQ, Int.toNat_natCast, if_neg (by simp), hW.1]
        have e2 : (((2 ^ h.length : Nat) : Int) - 1).toNat = seg h.length := by unfold seg; omega
        rw [e2]
        have := Nat.two_pow_pos h.length
        refine ⟨by unfold inI; omega, ⟨by omega, by omega⟩, ?_, e.symm, trivial⟩
        rw [hW.fin h8]; unfold cntV; rw [if_pos e]; rfl
      · intro t ht ih W hW
        apply h1; unfold cCountG_1
        rw [powQ, Int.toNat_natCast, if_pos (by rw [decide_eq_true_eq, List.length_set, List.length_replicate]; omega)]
        refine upto (n := h.length) (Q := fun n => ∀ W, Tab (frD h) h.length t n W → Λ2 (t : Int) (n : Int) W) ?_ ?_ 0 (Nat.zero_le _) W hW
        · intro W hW
          apply h2; unfold cCountG_2
          rw [if_neg (by simp)]
          exact ⟨by unfold inI; omega, ih W hW.next⟩
        · intro n hn ihn W hW
          have oq := orQ_all t (by omega) n (by omega)
          have bt := hW.bd h8 ht
          have bu := hW.bd h8 (or_lt ht hn)
          have ou := or_lt ht hn
          apply h2; unfold cCountG_2
          rw [if_pos (by simpa using hn)]
          refine ⟨⟨by omega, by rw [hW.1]; omega⟩, ?_⟩
          show if _ then (_ ∧ _ ∧ (if (bif true then frD h t n else false) = true then (_ ∧ _ ∧ idx (orQ t n) _ ∧ _ ∧ inI (W.getD (orQ t n).toNat 0 + W.getD t 0) ∧ idx (orQ t n) _ ∧ _ ∧ Λ2 t ((n : Int) + 1) (W.set (orQ t n).toNat (W.getD (orQ t n).toNat 0 + W.getD t 0))) else _)) else _
          rw [oq, show Int.toNat ((t ||| 2 ^ n : Nat) : Int) = t ||| 2 ^ n from rfl]
          by_cases c1 : W.getD t 0 > 0
          · rw [if_pos (by rw [decide_eq_true_eq]; exact c1)]
            refine ⟨⟨by omega, by omega, h8, by omega, by omega⟩, trivial, ?_⟩
            cases c2 : frD h t n
            · rw [if_neg (by simp)]
              exact ⟨inI_succ hn (by omega), ihn W (hW.skip h8 hn ht (.inl c2) (hb t n))⟩
            · rw [if_pos (by rfl)]
              exact ⟨⟨by omega, by omega, inI_pow (by omega)⟩, trivial, ⟨by omega, by rw [hW.1]; omega⟩, ⟨by omega, by rw [hW.1]; omega⟩, by unfold inI; omega, ⟨by omega, by rw [hW.1]; omega⟩, inI_succ hn (by omega), ihn _ (hW.step h8 hn ht c2 (hb t n))⟩
          · rw [if_neg (by rw [decide_eq_true_eq]; exact c1)]
            have z : cnt (frD h) h.length t = 0 := by have := hW.at h8 ht; omega
            exact ⟨rfl, inI_succ hn (by omega), ihn W (hW.skip h8 hn ht (.inr z) (hb t n))⟩
    have := Nat.two_pow_pos h.length
    exact ⟨⟨by omega, by omega, by unfold inI; omega⟩, ⟨by omega, by omega, rfl⟩, ⟨by omega, by rw [List.length_replicate]; omega⟩, key _ (Tab.start _ _)⟩
  · rw [if_pos (by simpa using e)]
    unfold cntV; rw [if_neg e]
    exact ⟨rfl, rfl, trivial⟩
abbrev cLastG : Con := { A := (.cons (.sl tL) (.cons (.sl (.sl tEd)) .nil)), R := (.cons (.sl .int) (.cons .int .nil)), pre := fun x => True, F := fun x => (lastO x.1 x.2.1, err7 x.1 x.2.1, ()) }
def cLastG_0 (Λ1 : Int → Int → (List Int) → Prop) (Λ2 : Int → (List Int) → Int → Int → Prop) (p : (List Lin)) (h : (List (List Edt))) (y0 : (List Int)) (y1 : Int) : Prop :=
  True ∧ (if ((err7 p h) != (0 : Int)) = true then (([] : List Int) = y0 ∧ (err7 p h) = y1 ∧ True) else Λ1 (0 : Int) (0 : Int) ([] : List Int))
def cLastG_1 (Λ1 : Int → Int → (List Int) → Prop) (Λ2 : Int → (List Int) → Int → Int → Prop) (p : (List Lin)) (h : (List (List Edt))) (y0 : (List Int)) (y1 : Int)  (done_1 : Int) (t18_1 : Int) (out_1 : (List Int)) : Prop :=
  if (decide (t18_1 < (List.length h : Int))) = true then (inI ((List.length h : Int) - (1 : Int)) ∧ Λ2 done_1 out_1 t18_1 ((List.length h : Int) - (1 : Int))) else (out_1 = y0 ∧ (0 : Int) = y1 ∧ True)
def cLastG_2 (Λ1 : Int → Int → (List Int) → Prop) (Λ2 : Int → (List Int) → Int → Int → Prop) (p : (List Lin)) (h : (List (List Edt))) (y0 : (List Int)) (y1 : Int) (done_1 : Int) (out_1 : (List Int)) (t18_1 : Int) (n_2 : Int) : Prop :=
  if (decide (n_2 ≥ (0 : Int))) = true then ((0 ≤ n_2 ∧ n_2 < (h.length : Int) ∧ h.length ≤ 8 ∧ 0 ≤ done_1 ∧ done_1 < 256) ∧ (if (frD h (Int.toNat done_1) (Int.toNat n_2)) = true then (List.length out_1 + List.length [n_2] ≤ 4294967296 ∧ ((0 ≤ n_2 ∧ n_2 < 64 ∧ inI ((1 : Int) * 2 ^ (Int.toNat n_2))) ∧ (True ∧ (inI (t18_1 + (1 : Int)) ∧ Λ1 (IntKind.i64.wrap (BitVec.ofInt 64 done_1 ||| BitVec.ofInt 64 ((1 : Int) * 2 ^ (Int.toNat n_2))).toNat) (t18_1 + (1 : Int)) (out_1 ++ [n_2]))))) else (inI (n_2 - (1 : Int)) ∧ Λ2 done_1 out_1 t18_1 (n_2 - (1 : Int))))) else (inI (t18_1 + (1 : Int)) ∧ Λ1 done_1 (t18_1 + (1 : Int)) out_1)
theorem cLastG_law (h : ∀ (p : (List Lin)) (h : (List (List Edt))), cLastG.A.wf (p, h, ()) → ∀ (Λ1 : Int → Int → (List Int) → Prop) (Λ2 : Int → (List Int) → Int → Int → Prop), (∀ (done_1 : Int) (t18_1 : Int) (out_1 : (List Int)), cLastG_1 Λ1 Λ2 p h (lastO p h) (err7 p h) done_1 t18_1 out_1 → Λ1 done_1 t18_1 out_1) → (∀ (done_1 : Int) (out_1 : (List Int)) (t18_1 : Int) (n_2 : Int), cLastG_2 Λ1 Λ2 p h (lastO p h) (err7 p h) done_1 out_1 t18_1 n_2 → Λ2 done_1 out_1 t18_1 n_2) → cLastG_0 Λ1 Λ2 p h (lastO p h) (err7 p h)) : ConOK Go.Proofs.Try.prog 42 cLastG := by
  refine lawL (Γ := [(83, cFree7G), (32, cVal7)]) (Θ := Th) (n := 41) [([1, 1, 1, 1, 0, 1, 0], ⟨[(1, false), (7, true), (8, true), (17, true), (18, true)], [(7, true)]⟩), ([1, 1, 1, 1, 0, 1, 0, 0, 1, 1, 0, 0, 1, 0], ⟨[(1, false), (7, true), (8, true), (9, true), (17, true), (18, true)], [(7, true)]⟩)] ⟨cFree7G_ok, cVal7_ok, trivial⟩ (by kernel_rfl) th_ok mix_ok Go.Proofs.Try.func42 (by kernel_rfl) ?_
  intro x hw hp Λ hC
  have h0 := h x.1 x.2.1 hw (fun done_1 t18_1 out_1 => Λ [1, 1, 1, 1, 0, 1, 0] ([(1, .d false (.sl (.sl tEd)) x.2.1), (7, .own 7 0), (8, .d true .int done_1), (17, .d true .int (List.length x.2.1 : Int)), (18, .d true .int t18_1)], [(7, .sl true .int out_1)])) (fun done_1 out_1 t18_1 n_2 => Λ [1, 1, 1, 1, 0, 1, 0, 0, 1, 1, 0, 0, 1, 0] ([(1, .d false (.sl (.sl tEd)) x.2.1), (7, .own 7 0), (8, .d true .int done_1), (9, .d true .int n_2), (17, .d true .int (List.length x.2.1 : Int)), (18, .d true .int t18_1)], [(7, .sl true .int out_1)])) (fun done_1 t18_1 out_1 hb => hC [1, 1, 1, 1, 0, 1, 0] ([(1, .d false (.sl (.sl tEd)) x.2.1), (7, .own 7 0), (8, .d true .int done_1), (17, .d true .int (List.length x.2.1 : Int)), (18, .d true .int t18_1)], [(7, .sl true .int out_1)]) (Eq.mpr (by kernel_rfl) hb)) (fun done_1 out_1 t18_1 n_2 hb => hC [1, 1, 1, 1, 0, 1, 0, 0, 1, 1, 0, 0, 1, 0] ([(1, .d false (.sl (.sl tEd)) x.2.1), (7, .own 7 0), (8, .d true .int done_1), (9, .d true .int n_2), (17, .d true .int (List.length x.2.1 : Int)), (18, .d true .int t18_1)], [(7, .sl true .int out_1)]) (Eq.mpr (by kernel_rfl) hb))
  exact Eq.mpr (by kernel_rfl) h0
theorem cLastG_ok : ConOK Go.Proofs.Try.prog 42 cLastG := by
  refine cLastG_law ?_
  intro p h hw Λ1 Λ2 h1 h2
  unfold cLastG_0
  refine ⟨trivial, ?_⟩
  by_cases e : err7 p h = 0
  · rw [if_neg (by simp [e])]
    have h8 := (err7_ok e).2.1
    have p8 := pow_le8 h8
    refine upto (n := h.length) (Q := fun i => Λ1 ((lastF (frD h) h.length i).2 : Int) (i : Int) (lastF (frD h) h.length i).1) ?_ ?_ 0 (Nat.zero_le _)
    · apply h1; unfold cLastG_1; rw [if_neg (by simp)]
      refine ⟨?_, e.symm, trivial⟩
      unfold lastO; rw [if_pos e]; rfl
    · intro i hi ih
      have s := lastF_ok h i (by omega)
      obtain ⟨m, em⟩ := s.has hi
      rw [lastF, em] at ih
      generalize (lastF (frD h) h.length i).2 = t at s em ih ⊢
      generalize (lastF (frD h) h.length i).1 = o at s ih ⊢
      have tl := s.lt
      have ol := s.len
      apply h1; unfold cLastG_1; rw [if_pos (by simpa using hi)]
      refine ⟨by unfold inI; omega, ?_⟩
      have key := upto (n := h.length) (Q := fun k => pick (frD h) t (h.length - k) = some m → Λ2 (t : Int) o (i : Int) ((h.length : Int) - 1 - k)) ?_ ?_ 0 (Nat.zero_le _) em
      · simpa using key
      · intro q
        rw [Nat.sub_self] at q; simp [pick] at q
      · intro k hk ihk q
        have e9 : ((h.length : Int) - 1 - k).toNat = h.length - 1 - k := by omega
        have e8 : ((h.length : Int) - 1 - k) = ((h.length - 1 - k : Nat) : Int) := by omega
        rw [show h.length - k = (h.length - 1 - k) + 1 by omega, pick] at q
        apply h2; unfold cLastG_2; rw [if_pos (by rw [decide_eq_true_eq]; omega)]
        refine ⟨⟨by omega, by omega, h8, by omega, by omega⟩, ?_⟩
        rw [e9, Int.toNat_natCast]
        by_cases c : frD h t (h.length - 1 - k) = true
        · rw [if_pos c] at q ⊢
          cases q
          refine ⟨by simp only [List.length_cons, List.length_nil]; omega, ⟨by omega, by omega, ?_⟩, trivial, inI_succ hi (by omega), ?_⟩
          · have := inI_pow (n := h.length - 1 - k) (by omega)
            rw [Int.toNat_natCast] at this
            exact this
          · have oq := orQ_all t (by omega) (h.length - 1 - k) (by omega)
            rw [e8]
            show Λ1 (orQ t ((h.length - 1 - k : Nat) : Int)) _ _
            rw [oq]; exact ih
        · rw [if_neg c] at q ⊢
          refine ⟨by unfold inI; omega, ?_⟩
          rw [show ((h.length : Int) - 1 - k - 1) = (h.length : Int) - 1 - ((k + 1 : Nat) : Int) by omega]
          exact ihk (by rw [show h.length - (k + 1) = h.length - 1 - k by omega]; exact q)
  · rw [if_pos (by simpa using e)]
    unfold lastO; rw [if_neg e]
    exact ⟨rfl, rfl, trivial⟩
abbrev cFreeR : Con := { A := (.cons (.sl (.sl .bool)) (.cons .int (.cons .int .nil))), R := (.cons .bool .nil), pre := fun x => (∃ h', x.1 = matN h' ∧ h'.length ≤ 8 ∧ x.2.2.1 < (h'.length : Int)) ∧ 0 ≤ x.2.2.1 ∧ 0 ≤ x.2.1 ∧ x.2.1 < 256, F := fun x => (frM x.1 (Int.toNat x.2.1) (Int.toNat x.2.2.1), ()) }
def cFreeR_0 (Λ1 : Int → Prop) (all : (List (List Bool))) (set_ : Int) (n : Int) (y0 : Bool) : Prop :=
  (0 ≤ n ∧ n < 64) ∧ (True ∧ (if ((IntKind.i64.wrap (BitVec.ofInt 64 (Int.fdiv set_ (2 ^ (Int.toNat n))) &&& BitVec.ofInt 64 (1 : Int)).toNat) == (1 : Int)) = true then (false = y0 ∧ True) else Λ1 (0 : Int)))
def cFreeR_1 (Λ1 : Int → Prop) (all : (List (List Bool))) (set_ : Int) (n : Int) (y0 : Bool)  (k_1 : Int) : Prop :=
  if (decide (k_1 < (List.length all : Int))) = true then (idx n (List.length all : Int) ∧ (idx k_1 (List.length (List.getD all (Int.toNat n) ([] : List Bool)) : Int) ∧ (if (List.getD (List.getD all (Int.toNat n) ([] : List Bool)) (Int.toNat k_1) false) = true then ((0 ≤ k_1 ∧ k_1 < 64) ∧ (True ∧ (True ∧ (if (bif true then ((IntKind.i64.wrap (BitVec.ofInt 64 (Int.fdiv set_ (2 ^ (Int.toNat k_1))) &&& BitVec.ofInt 64 (1 : Int)).toNat) == (0 : Int)) else false) = true then (false = y0 ∧ True) else (inI (k_1 + (1 : Int)) ∧ Λ1 (k_1 + (1 : Int))))))) else (false = false ∧ (inI (k_1 + (1 : Int)) ∧ Λ1 (k_1 + (1 : Int))))))) else (true = y0 ∧ True)
theorem cFreeR_law (h : ∀ (all : (List (List Bool))) (set_ : Int) (n : Int), cFreeR.A.wf (all, set_, n, ()) → ((∃ h', all = matN h' ∧ h'.length ≤ 8 ∧ n < (h'.length : Int)) ∧ 0 ≤ n ∧ 0 ≤ set_ ∧ set_ < 256) → ∀ (Λ1 : Int → Prop), (∀ (k_1 : Int), cFreeR_1 Λ1 all set_ n (frM all (Int.toNat set_) (Int.toNat n)) k_1 → Λ1 k_1) → cFreeR_0 Λ1 all set_ n (frM all (Int.toNat set_) (Int.toNat n))) : ConOK Go.Proofs.Try.prog 84 cFreeR := by
  refine lawL (Γ := []) (Θ := Th) (n := 33) [([1, 1, 0, 1, 0], ⟨[(0, false), (1, false), (2, false), (7, true)], []⟩)] trivial (by kernel_rfl) th_ok mix_ok Go.Proofs.Try.func84 (by kernel_rfl) ?_
  intro x hw hp Λ hC
  have h0 := h x.1 x.2.1 x.2.2.1 hw hp (fun k_1 => Λ [1, 1, 0, 1, 0] ([(0, .d false (.sl (.sl .bool)) x.1), (1, .d false .int x.2.1), (2, .d false .int x.2.2.1), (7, .d true .int k_1)], [])) (fun k_1 hb => hC [1, 1, 0, 1, 0] ([(0, .d false (.sl (.sl .bool)) x.1), (1, .d false .int x.2.1), (2, .d false .int x.2.2.1), (7, .d true .int k_1)], []) (Eq.mpr (by kernel_rfl) hb))
  exact Eq.mpr (by kernel_rfl) h0
theorem cFreeR_ok : ConOK Go.Proofs.Try.prog 84 cFreeR := by
  refine cFreeR_law ?_
  intro all set_ n hw hp Λ1 h1
  unfold cFreeR_0
  obtain ⟨⟨g, rfl, p2, p3⟩, p4, p5, p6⟩ := hp
  obtain ⟨N, rfl⟩ := Int.eq_ofNat_of_zero_le p4
  obtain ⟨T, rfl⟩ := Int.eq_ofNat_of_zero_le p5
  refine ⟨⟨p4, by omega⟩, trivial, ?_⟩
  show if (bitQ T N == 1) = true then _ else _
  rw [bitQ_all T (by omega) N (by omega)]
  have fe : frM (matN g) T N = frA g T N := frM_mat g T (by omega)
  rw [Int.toNat_natCast, Int.toNat_natCast, fe] at h1
  have fi := frA_iff (h := g) (t := T) (n := N) (by omega)
  cases hb : T.testBit N
  · rw [if_neg (by simp)]
    refine upto (n := g.length) (Q := fun i => (∀ k, k < i → need g N k = true → T.testBit k = true) → Λ1 (i : Int)) ?_ ?_ 0 (Nat.zero_le _) (fun k hk => by omega)
    · intro ha
      apply h1; unfold cFreeR_1; rw [matN_len, if_neg (by simp)]
      exact ⟨(fi.2 ⟨hb, fun k hk => ha k (by have := need_lt hk; omega) hk⟩).symm, trivial⟩
    · intro i hi ih ha
      apply h1; unfold cFreeR_1
      rw [matN_len, if_pos (by simpa using hi), Int.toNat_natCast, Int.toNat_natCast, matN_get g (by omega), matN_row g (by omega), rowN_len]
      refine ⟨⟨by omega, by omega⟩, ⟨by omega, by omega⟩, ?_⟩
      cases hn : need g N i
      · rw [if_neg (by simp)]
        refine ⟨rfl, inI_succ hi (by omega), ih fun k hk hq => ?_⟩
        by_cases q : k = i
        · subst q; rw [hn] at hq; cases hq
        · exact ha k (by omega) hq
      · rw [if_pos rfl]
        refine ⟨⟨by omega, by omega⟩, trivial, trivial, ?_⟩
        show if (bif true then (bitQ T i == 0) else false) = true then _ else _
        rw [bitQ_all T (by omega) i (by omega)]
        cases hc : T.testBit i
        · rw [if_pos (by rfl)]
          refine ⟨?_, trivial⟩
          cases q : frA g T N
          · rfl
          · have := (fi.1 q).2 i hn
            rw [hc] at this; cases this
        · rw [if_neg (by simp)]
          refine ⟨inI_succ hi (by omega), ih fun k hk hq => ?_⟩
          by_cases q : k = i
          · subst q; exact hc
          · exact ha k (by omega) hq
  · rw [if_pos (by rfl)]
    refine ⟨?_, trivial⟩
    show false = frM (matN g) T N
    unfold frM; rw [hb]; rfl
abbrev cCountR : Con := { A := (.cons (.sl tL) (.cons (.sl (.sl tEd)) .nil)), R := (.cons .int (.cons .int .nil)), pre := fun x => True, F := fun x => (cntV x.1 x.2.1, err7 x.1 x.2.1, ()) }
def cCountR_0 (Λ1 : Int → (List Int) → Prop) (Λ2 : Int → Int → (List Int) → Prop) (p : (List Lin)) (h : (List (List Edt))) (y0 : Int) (y1 : Int) : Prop :=
  True ∧ (if ((err7 p h) != (0 : Int)) = true then ((0 : Int) = y0 ∧ (err7 p h) = y1 ∧ True) else (h.length ≤ 8 ∧ ((0 ≤ (List.length h : Int) ∧ (List.length h : Int) < 64 ∧ inI ((1 : Int) * 2 ^ (Int.toNat (List.length h : Int)))) ∧ (mkLen ((1 : Int) * 2 ^ (Int.toNat (List.length h : Int))) ((1 : Int) * 2 ^ (Int.toNat (List.length h : Int))) ∧ (idx (0 : Int) (List.length (List.replicate (Int.toNat ((1 : Int) * 2 ^ (Int.toNat (List.length h : Int)))) (0 : Int)) : Int) ∧ Λ1 (0 : Int) (List.set (List.replicate (Int.toNat ((1 : Int) * 2 ^ (Int.toNat (List.length h : Int)))) (0 : Int)) (Int.toNat (0 : Int)) 1))))))
def cCountR_1 (Λ1 : Int → (List Int) → Prop) (Λ2 : Int → Int → (List Int) → Prop) (p : (List Lin)) (h : (List (List Edt))) (y0 : Int) (y1 : Int)  (set_1 : Int) (many_1 : (List Int)) : Prop :=
  if (decide (set_1 < (List.length many_1 : Int))) = true then Λ2 set_1 (0 : Int) many_1 else (inI ((List.length many_1 : Int) - (1 : Int)) ∧ (idx ((List.length many_1 : Int) - (1 : Int)) (List.length many_1 : Int) ∧ ((List.getD many_1 (Int.toNat ((List.length many_1 : Int) - (1 : Int))) 0) = y0 ∧ (0 : Int) = y1 ∧ True)))
def cCountR_2 (Λ1 : Int → (List Int) → Prop) (Λ2 : Int → Int → (List Int) → Prop) (p : (List Lin)) (h : (List (List Edt))) (y0 : Int) (y1 : Int) (set_1 : Int) (n_2 : Int) (many_2 : (List Int)) : Prop :=
  if (decide (n_2 < (List.length h : Int))) = true then (((∃ h', (matN h) = matN h' ∧ h'.length ≤ 8 ∧ n_2 < (h'.length : Int)) ∧ 0 ≤ n_2 ∧ 0 ≤ set_1 ∧ set_1 < 256) ∧ (if (frM (matN h) (Int.toNat set_1) (Int.toNat n_2)) = true then ((0 ≤ n_2 ∧ n_2 < 64 ∧ inI ((1 : Int) * 2 ^ (Int.toNat n_2))) ∧ (True ∧ (idx (IntKind.i64.wrap (BitVec.ofInt 64 set_1 ||| BitVec.ofInt 64 ((1 : Int) * 2 ^ (Int.toNat n_2))).toNat) (List.length many_2 : Int) ∧ (idx set_1 (List.length many_2 : Int) ∧ (inI ((List.getD many_2 (Int.toNat (IntKind.i64.wrap (BitVec.ofInt 64 set_1 ||| BitVec.ofInt 64 ((1 : Int) * 2 ^ (Int.toNat n_2))).toNat)) 0) + (List.getD many_2 (Int.toNat set_1) 0)) ∧ (idx (IntKind.i64.wrap (BitVec.ofInt 64 set_1 ||| BitVec.ofInt 64 ((1 : Int) * 2 ^ (Int.toNat n_2))).toNat) (List.length many_2 : Int) ∧ (inI (n_2 + (1 : Int)) ∧ Λ2 set_1 (n_2 + (1 : Int)) (List.set many_2 (Int.toNat (IntKind.i64.wrap (BitVec.ofInt 64 set_1 ||| BitVec.ofInt 64 ((1 : Int) * 2 ^ (Int.toNat n_2))).toNat)) ((List.getD many_2 (Int.toNat (IntKind.i64.wrap (BitVec.ofInt 64 set_1 ||| BitVec.ofInt 64 ((1 : Int) * 2 ^ (Int.toNat n_2))).toNat)) 0) + (List.getD many_2 (Int.toNat set_1) 0)))))))))) else (inI (n_2 + (1 : Int)) ∧ Λ2 set_1 (n_2 + (1 : Int)) many_2))) else (inI (set_1 + (1 : Int)) ∧ Λ1 (set_1 + (1 : Int)) many_2)
theorem cCountR_law (h : ∀ (p : (List Lin)) (h : (List (List Edt))), cCountR.A.wf (p, h, ()) → ∀ (Λ1 : Int → (List Int) → Prop) (Λ2 : Int → Int → (List Int) → Prop), (∀ (set_1 : Int) (many_1 : (List Int)), cCountR_1 Λ1 Λ2 p h (cntV p h) (err7 p h) set_1 many_1 → Λ1 set_1 many_1) → (∀ (set_1 : Int) (n_2 : Int) (many_2 : (List Int)), cCountR_2 Λ1 Λ2 p h (cntV p h) (err7 p h) set_1 n_2 many_2 → Λ2 set_1 n_2 many_2) → cCountR_0 Λ1 Λ2 p h (cntV p h) (err7 p h)) : ConOK Go.Proofs.Try.prog 41 cCountR := by
  refine lawL (Γ := [(84, cFreeR), (65, cNeedsMR), (33, cVal7R)]) (Θ := Th) (n := 60) [([1, 1, 1, 1, 1, 1, 0, 1, 0], ⟨[(1, false), (7, false), (8, true), (9, true)], [(22, true)]⟩), ([1, 1, 1, 1, 1, 1, 0, 1, 0, 0, 1, 0, 0, 1, 0], ⟨[(1, false), (7, false), (8, true), (9, true), (10, true)], [(22, true)]⟩)] ⟨cFreeR_ok, cNeedsMR_ok, cVal7R_ok, trivial⟩ (by kernel_rfl) th_ok mix_ok Go.Proofs.Try.func41 (by kernel_rfl) ?_
  intro x hw hp Λ hC
  have h0 := h x.1 x.2.1 hw (fun set_1 many_1 => Λ [1, 1, 1, 1, 1, 1, 0, 1, 0] ([(1, .d false (.sl (.sl tEd)) x.2.1), (7, .d false (.sl (.sl .bool)) (matN x.2.1)), (8, .own 22 0), (9, .d true .int set_1)], [(22, .sl true .int many_1)])) (fun set_1 n_2 many_2 => Λ [1, 1, 1, 1, 1, 1, 0, 1, 0, 0, 1, 0, 0, 1, 0] ([(1, .d false (.sl (.sl tEd)) x.2.1), (7, .d false (.sl (.sl .bool)) (matN x.2.1)), (8, .own 22 0), (9, .d true .int set_1), (10, .d true .int n_2)], [(22, .sl true .int many_2)])) (fun set_1 many_1 hb => hC [1, 1, 1, 1, 1, 1, 0, 1, 0] ([(1, .d false (.sl (.sl tEd)) x.2.1), (7, .d false (.sl (.sl .bool)) (matN x.2.1)), (8, .own 22 0), (9, .d true .int set_1)], [(22, .sl true .int many_1)]) (Eq.mpr (by kernel_rfl) hb)) (fun set_1 n_2 many_2 hb => hC [1, 1, 1, 1, 1, 1, 0, 1, 0, 0, 1, 0, 0, 1, 0] ([(1, .d false (.sl (.sl tEd)) x.2.1), (7, .d false (.sl (.sl .bool)) (matN x.2.1)), (8, .own 22 0), (9, .d true .int set_1), (10, .d true .int n_2)], [(22, .sl true .int many_2)]) (Eq.mpr (by kernel_rfl) hb))
  exact Eq.mpr (by kernel_rfl) h0
theorem cCountR_ok : ConOK Go.Proofs.Try.prog 41 cCountR := by
  refine cCountR_law ?_
  intro p h hw Λ1 Λ2 h1 h2
  unfold cCountR_0
  refine ⟨trivial, ?_⟩
  by_cases e : err7 p h = 0
  · rw [if_neg (by simp [e])]
    have h8 := (err7_ok e).2.1
    have p8 := pow_le8 h8
    have hb : ∀ t n, n < h.length → frA h t n = true → t.testBit n = false := fun t n hn q => ((frA_iff hn).1 q).1
    rw [powQ, Int.toNat_natCast]
    have key : ∀ W, Tab (frA h) h.length 0 0 W → Λ1 (((0 : Nat) : Int)) W := by
      refine upto (n := 2 ^ h.length) (Q := fun t => ∀ W, Tab (frA h) h.length t 0 W → Λ1 (t : Int) W) ?_ ?_ 0 (Nat.zero_le _)
      · intro W hW
        apply h1; unfold cCountR_1
        rw [hW.1, if_neg (by simp)]
        have e2 : (((2 ^ h.length : Nat) : Int) - 1).toNat = seg h.length := by unfold seg; omega
        rw [e2]
        have := Nat.two_pow_pos h.length
        refine ⟨by unfold inI; omega, ⟨by omega, by omega⟩, ?_, e.symm, trivial⟩
        rw [hW.fin h8, ← cnt_same h8 _ (by unfold seg; omega)]; unfold cntV; rw [if_pos e]; rfl
      · intro t ht ih W hW
        apply h1; unfold cCountR_1
        rw [hW.1, if_pos (by rw [decide_eq_true_eq]; omega)]
        refine upto (n := h.length) (Q := fun n => ∀ W, Tab (frA h) h.length t n W → Λ2 (t : Int) (n : Int) W) ?_ ?_ 0 (Nat.zero_le _) W hW
        · intro W hW
          apply h2; unfold cCountR_2
          rw [if_neg (by simp)]
          exact ⟨by unfold inI; omega, ih W hW.next⟩
        · intro n hn ihn W hW
          have oq := orQ_all t (by omega) n (by omega)
          have bt := hW.bd h8 ht
          have bu := hW.bd h8 (or_lt ht hn)
          have ou := or_lt ht hn
          apply h2; unfold cCountR_2
          rw [if_pos (by simpa using hn)]
          refine ⟨⟨⟨h, rfl, h8, by omega⟩, by omega, by omega, by omega⟩, ?_⟩
          show if frM (matN h) t n = true then (_ ∧ _ ∧ idx (orQ t n) _ ∧ _ ∧ inI (W.getD (orQ t n).toNat 0 + W.getD t 0) ∧ idx (orQ t n) _ ∧ _ ∧ Λ2 t ((n : Int) + 1) (W.set (orQ t n).toNat (W.getD (orQ t n).toNat 0 + W.getD t 0))) else _
          rw [oq, show Int.toNat ((t ||| 2 ^ n : Nat) : Int) = t ||| 2 ^ n from rfl, frM_mat h t hn]
          cases c2 : frA h t n
          · rw [if_neg (by simp)]
            exact ⟨inI_succ hn (by omega), ihn W (hW.skip h8 hn ht (.inl c2) (hb t n hn))⟩
          · rw [if_pos rfl]
            exact ⟨⟨by omega, by omega, inI_pow (by omega)⟩, trivial, ⟨by omega, by rw [hW.1]; omega⟩, ⟨by omega, by rw [hW.1]; omega⟩, by unfold inI; omega, ⟨by omega, by rw [hW.1]; omega⟩, inI_succ hn (by omega), ihn _ (hW.step h8 hn ht c2 (hb t n hn))⟩
    have := Nat.two_pow_pos h.length
    exact ⟨h8, ⟨by omega, by omega, by unfold inI; omega⟩, ⟨by omega, by omega, rfl⟩, ⟨by omega, by rw [List.length_replicate]; omega⟩, key _ (Tab.start _ _)⟩
  · rw [if_pos (by simpa using e)]
    unfold cntV; rw [if_neg e]
    exact ⟨rfl, rfl, trivial⟩
abbrev cLastR : Con := { A := (.cons (.sl tL) (.cons (.sl (.sl tEd)) .nil)), R := (.cons (.sl .int) (.cons .int .nil)), pre := fun x => True, F := fun x => (lastO x.1 x.2.1, err7 x.1 x.2.1, ()) }
def cLastR_0 (Λ1 : Int → (List Int) → Prop) (Λ2 : (List Int) → Int → Int → Prop) (p : (List Lin)) (h : (List (List Edt))) (y0 : (List Int)) (y1 : Int) : Prop :=
  True ∧ (if ((err7 p h) != (0 : Int)) = true then (([] : List Int) = y0 ∧ (err7 p h) = y1 ∧ True) else (h.length ≤ 8 ∧ Λ1 (0 : Int) ([] : List Int)))
def cLastR_1 (Λ1 : Int → (List Int) → Prop) (Λ2 : (List Int) → Int → Int → Prop) (p : (List Lin)) (h : (List (List Edt))) (y0 : (List Int)) (y1 : Int)  (set_1 : Int) (out_1 : (List Int)) : Prop :=
  if (decide ((List.length out_1 : Int) < (List.length h : Int))) = true then (inI ((List.length h : Int) - (1 : Int)) ∧ Λ2 out_1 set_1 ((List.length h : Int) - (1 : Int))) else (out_1 = y0 ∧ (0 : Int) = y1 ∧ True)
def cLastR_2 (Λ1 : Int → (List Int) → Prop) (Λ2 : (List Int) → Int → Int → Prop) (p : (List Lin)) (h : (List (List Edt))) (y0 : (List Int)) (y1 : Int) (out_1 : (List Int)) (set_1 : Int) (n_2 : Int) : Prop :=
  if (decide (n_2 ≥ (0 : Int))) = true then (((∃ h', (matN h) = matN h' ∧ h'.length ≤ 8 ∧ n_2 < (h'.length : Int)) ∧ 0 ≤ n_2 ∧ 0 ≤ set_1 ∧ set_1 < 256) ∧ (if (frM (matN h) (Int.toNat set_1) (Int.toNat n_2)) = true then (List.length out_1 + List.length [n_2] ≤ 4294967296 ∧ ((0 ≤ n_2 ∧ n_2 < 64 ∧ inI ((1 : Int) * 2 ^ (Int.toNat n_2))) ∧ (True ∧ Λ1 (IntKind.i64.wrap (BitVec.ofInt 64 set_1 ||| BitVec.ofInt 64 ((1 : Int) * 2 ^ (Int.toNat n_2))).toNat) (out_1 ++ [n_2])))) else (inI (n_2 - (1 : Int)) ∧ Λ2 out_1 set_1 (n_2 - (1 : Int))))) else Λ1 set_1 out_1
theorem cLastR_law (h : ∀ (p : (List Lin)) (h : (List (List Edt))), cLastR.A.wf (p, h, ()) → ∀ (Λ1 : Int → (List Int) → Prop) (Λ2 : (List Int) → Int → Int → Prop), (∀ (set_1 : Int) (out_1 : (List Int)), cLastR_1 Λ1 Λ2 p h (lastO p h) (err7 p h) set_1 out_1 → Λ1 set_1 out_1) → (∀ (out_1 : (List Int)) (set_1 : Int) (n_2 : Int), cLastR_2 Λ1 Λ2 p h (lastO p h) (err7 p h) out_1 set_1 n_2 → Λ2 out_1 set_1 n_2) → cLastR_0 Λ1 Λ2 p h (lastO p h) (err7 p h)) : ConOK Go.Proofs.Try.prog 43 cLastR := by
  refine lawL (Γ := [(84, cFreeR), (65, cNeedsMR), (33, cVal7R)]) (Θ := Th) (n := 44) [([1, 1, 1, 1, 1, 1, 0, 0], ⟨[(1, false), (7, false), (8, true), (9, true)], [(8, true)]⟩), ([1, 1, 1, 1, 1, 1, 0, 0, 0, 1, 0, 1, 0], ⟨[(1, false), (7, false), (8, true), (9, true), (10, true)], [(8, true)]⟩)] ⟨cFreeR_ok, cNeedsMR_ok, cVal7R_ok, trivial⟩ (by kernel_rfl) th_ok mix_ok Go.Proofs.Try.func43 (by kernel_rfl) ?_
  intro x hw hp Λ hC
  have h0 := h x.1 x.2.1 hw (fun set_1 out_1 => Λ [1, 1, 1, 1, 1, 1, 0, 0] ([(1, .d false (.sl (.sl tEd)) x.2.1), (7, .d false (.sl (.sl .bool)) (matN x.2.1)), (8, .own 8 0), (9, .d true .int set_1)], [(8, .sl true .int out_1)])) (fun out_1 set_1 n_2 => Λ [1, 1, 1, 1, 1, 1, 0, 0, 0, 1, 0, 1, 0] ([(1, .d false (.sl (.sl tEd)) x.2.1), (7, .d false (.sl (.sl .bool)) (matN x.2.1)), (8, .own 8 0), (9, .d true .int set_1), (10, .d true .int n_2)], [(8, .sl true .int out_1)])) (fun set_1 out_1 hb => hC [1, 1, 1, 1, 1, 1, 0, 0] ([(1, .d false (.sl (.sl tEd)) x.2.1), (7, .d false (.sl (.sl .bool)) (matN x.2.1)), (8, .own 8 0), (9, .d true .int set_1)], [(8, .sl true .int out_1)]) (Eq.mpr (by kernel_rfl) hb)) (fun out_1 set_1 n_2 hb => hC [1, 1, 1, 1, 1, 1, 0, 0, 0, 1, 0, 1, 0] ([(1, .d false (.sl (.sl tEd)) x.2.1), (7, .d false (.sl (.sl .bool)) (matN x.2.1)), (8, .own 8 0), (9, .d true .int set_1), (10, .d true .int n_2)], [(8, .sl true .int out_1)]) (Eq.mpr (by kernel_rfl) hb))
  exact Eq.mpr (by kernel_rfl) h0
theorem cLastR_ok : ConOK Go.Proofs.Try.prog 43 cLastR := by
  refine cLastR_law ?_
  intro p h hw Λ1 Λ2 h1 h2
  unfold cLastR_0
  refine ⟨trivial, ?_⟩
  by_cases e : err7 p h = 0
  · rw [if_neg (by simp [e])]
    have h8 := (err7_ok e).2.1
    have p8 := pow_le8 h8
    refine ⟨h8, ?_⟩
    refine upto (n := h.length) (Q := fun i => Λ1 ((lastF (frD h) h.length i).2 : Int) (lastF (frD h) h.length i).1) ?_ ?_ 0 (Nat.zero_le _)
    · have s := lastF_ok h h.length (Nat.le_refl _)
      apply h1; unfold cLastR_1; rw [s.len, if_neg (by simp)]
      refine ⟨?_, e.symm, trivial⟩
      unfold lastO; rw [if_pos e]; rfl
    · intro i hi ih
      have s := lastF_ok h i (by omega)
      obtain ⟨m, em⟩ := s.has hi
      rw [lastF, em] at ih
      generalize (lastF (frD h) h.length i).2 = t at s em ih ⊢
      generalize (lastF (frD h) h.length i).1 = o at s ih ⊢
      have tl := s.lt
      have ol := s.len
      apply h1; unfold cLastR_1; rw [ol, if_pos (by simpa using hi)]
      refine ⟨by unfold inI; omega, ?_⟩
      have key := upto (n := h.length) (Q := fun k => pick (frD h) t (h.length - k) = some m → Λ2 o (t : Int) ((h.length : Int) - 1 - k)) ?_ ?_ 0 (Nat.zero_le _) em
      · simpa using key
      · intro q
        rw [Nat.sub_self] at q; simp [pick] at q
      · intro k hk ihk q
        have e9 : ((h.length : Int) - 1 - k).toNat = h.length - 1 - k := by omega
        have e8 : ((h.length : Int) - 1 - k) = ((h.length - 1 - k : Nat) : Int) := by omega
        rw [show h.length - k = (h.length - 1 - k) + 1 by omega, pick] at q
        apply h2; unfold cLastR_2; rw [if_pos (by rw [decide_eq_true_eq]; omega)]
        refine ⟨⟨⟨h, rfl, h8, by omega⟩, by omega, by omega, by omega⟩, ?_⟩
        rw [e9, Int.toNat_natCast, frM_mat h t (by omega), ← fr_same s.clos (by omega)]
        by_cases c : frD h t (h.length - 1 - k) = true
        · rw [if_pos c] at q ⊢
          cases q
          refine ⟨by simp only [List.length_cons, List.length_nil]; omega, ⟨by omega, by omega, ?_⟩, trivial, ?_⟩
          · have := inI_pow (n := h.length - 1 - k) (by omega)
            rw [Int.toNat_natCast] at this
            exact this
          · have oq := orQ_all t (by omega) (h.length - 1 - k) (by omega)
            rw [e8]
            show Λ1 (orQ t ((h.length - 1 - k : Nat) : Int)) _
            rw [oq]; exact ih
        · rw [if_neg c] at q ⊢
          refine ⟨by unfold inI; omega, ?_⟩
          rw [show ((h.length : Int) - 1 - k - 1) = (h.length : Int) - 1 - ((k + 1 : Nat) : Int) by omega]
          exact ihk (by rw [show h.length - (k + 1) = h.length - 1 - k by omega]; exact q)
  · rw [if_pos (by simpa using e)]
    unfold lastO; rw [if_neg e]
    exact ⟨rfl, rfl, trivial⟩
abbrev cStoryCounts : Con := { A := (.cons (.sl tL) (.cons (.sl (.sl tEd)) .nil)), R := (.cons .bool .nil), pre := fun x => True, F := fun x => (true, ()) }
def cStoryCounts_0 (Λ1 : Bool → Int → Prop) (p : (List Lin)) (h : (List (List Edt))) (y0 : Bool) : Prop :=
  True ∧ (if (decide (∃ x' ∈ h, 50 < x'.length) || decide (100 < p.length) || decide (50 < h.length)) = true then (True ∧ (true = y0 ∧ True)) else (True ∧ (True ∧ (True ∧ (True ∧ (if ((cntV p h) != (cntV p h)) = true then (true = true ∧ (true = true ∧ (true = true ∧ (false = y0 ∧ True)))) else (True ∧ (if (bif false then true else ((err7 p h) != (err7 p h))) = true then (true = true ∧ (true = true ∧ (false = y0 ∧ True))) else ((lastO p h).length ≤ 1000000 ∧ (True ∧ (if (bif false then true else (!(decide ((lastO p h) = (lastO p h))))) = true then (true = true ∧ (false = y0 ∧ True)) else (True ∧ (if (bif false then true else ((err7 p h) != (err7 p h))) = true then (false = y0 ∧ True) else (if ((err7 p h) != (0 : Int)) = true then (True ∧ (true = y0 ∧ True)) else Λ1 true (0 : Int)))))))))))))))
def cStoryCounts_1 (Λ1 : Bool → Int → Prop) (p : (List Lin)) (h : (List (List Edt))) (y0 : Bool)  (same_1 : Bool) (j_1 : Int) : Prop :=
  if (decide (j_1 < (List.length (lastO p h) : Int))) = true then (if same_1 = true then (idx j_1 (List.length (lastO p h) : Int) ∧ (True ∧ (inI (j_1 + (1 : Int)) ∧ Λ1 (bif true then ((List.getD (lastO p h) (Int.toNat j_1) 0) == j_1) else false) (j_1 + (1 : Int))))) else (false = false ∧ (inI (j_1 + (1 : Int)) ∧ Λ1 false (j_1 + (1 : Int))))) else (True ∧ (if ((ordE p h (lastO p h)) == (0 : Int)) = true then (True ∧ (if (bif true then (decide ((cntV p h) ≥ (1 : Int))) else false) = true then (True ∧ (if (bif true then (((cntV p h) == (1 : Int)) == same_1) else false) = true then (True ∧ (True ∧ ((bif true then true else false) = y0 ∧ True))) else (false = false ∧ (false = y0 ∧ True)))) else (false = false ∧ (false = false ∧ (false = y0 ∧ True))))) else (false = false ∧ (false = false ∧ (false = false ∧ (false = y0 ∧ True))))))
theorem cStoryCounts_law (h : ∀ (p : (List Lin)) (h : (List (List Edt))), cStoryCounts.A.wf (p, h, ()) → ∀ (Λ1 : Bool → Int → Prop), (∀ (same_1 : Bool) (j_1 : Int), cStoryCounts_1 Λ1 p h true same_1 j_1 → Λ1 same_1 j_1) → cStoryCounts_0 Λ1 p h true) : ConOK Go.Proofs.Try.prog 10 cStoryCounts := by
  refine lawL (Γ := [(38, cCheckOrd), (40, cCountG), (41, cCountR), (42, cLastG), (43, cLastR), (15, cLong7), (23, cSameInts4), (16, cSane7)]) (Θ := Th) (n := 98) [([1, 1, 1, 1, 1, 1, 1, 1, 1, 0, 1, 0], ⟨[(0, false), (1, false), (5, true), (9, true), (13, true), (14, true)], []⟩)] ⟨cCheckOrd_ok, cCountG_ok, cCountR_ok, cLastG_ok, cLastR_ok, cLong7_ok, cSameInts4_ok, cSane7_ok, trivial⟩ (by kernel_rfl) th_ok mix_ok Go.Proofs.Try.func10 (by kernel_rfl) ?_
  intro x hw hp Λ hC
  have h0 := h x.1 x.2.1 hw (fun same_1 j_1 => Λ [1, 1, 1, 1, 1, 1, 1, 1, 1, 0, 1, 0] ([(0, .d false (.sl tL) x.1), (1, .d false (.sl (.sl tEd)) x.2.1), (5, .d true .int (cntV x.1 x.2.1)), (9, .d true (.sl .int) (lastO x.1 x.2.1)), (13, .d true .bool same_1), (14, .d true .int j_1)], [])) (fun same_1 j_1 hb => hC [1, 1, 1, 1, 1, 1, 1, 1, 1, 0, 1, 0] ([(0, .d false (.sl tL) x.1), (1, .d false (.sl (.sl tEd)) x.2.1), (5, .d true .int (cntV x.1 x.2.1)), (9, .d true (.sl .int) (lastO x.1 x.2.1)), (13, .d true .bool same_1), (14, .d true .int j_1)], []) (Eq.mpr (by kernel_rfl) hb))
  exact Eq.mpr (by kernel_rfl) h0
theorem cStoryCounts_ok : ConOK Go.Proofs.Try.prog 10 cStoryCounts := by
  refine cStoryCounts_law ?_
  intro p h hw Λ1 h1
  unfold cStoryCounts_0
  have ll : (lastO p h).length ≤ 1000000 := by
    unfold lastO
    split
    · rename_i e
      have := (lastL_perm h).len
      have := (err7_ok e).2.1
      omega
    · simp
  refine ⟨trivial, ?_⟩
  split
  · exact ⟨trivial, rfl, trivial⟩
  refine ⟨trivial, trivial, trivial, trivial, ?_⟩
  rw [if_neg (by simp)]
  refine ⟨trivial, ?_⟩
  rw [if_neg (by simp)]
  refine ⟨ll, trivial, ?_⟩
  rw [if_neg (by simp)]
  refine ⟨trivial, ?_⟩
  rw [if_neg (by simp)]
  by_cases e : err7 p h = 0
  · rw [if_neg (by simp [e])]
    have h8 := (err7_ok e).2.1
    have hL : lastO p h = lastL h := if_pos e
    have hC : cntV p h = (cntL h : Int) := if_pos e
    have pm := lastL_perm h
    have c1 := cntL_pos h8
    have oe := lastL_ok e
    refine upto (n := (lastL h).length) (Q := fun j => ∀ b : Bool, (b = true ↔ ∀ k, k < j → (lastL h).getD k 0 = (k : Int)) → Λ1 b (j : Int)) ?_ ?_ 0 (Nat.zero_le _) true (by simp)
    · intro b hb
      apply h1; unfold cStoryCounts_1
      rw [hL, hC, if_neg (by simp)]
      refine ⟨trivial, ?_⟩
      rw [if_pos (by rw [oe]; rfl)]
      refine ⟨trivial, ?_⟩
      rw [if_pos (by simp; omega)]
      refine ⟨trivial, ?_⟩
      rw [if_pos ?_]
      · exact ⟨trivial, trivial, rfl, trivial⟩
      · show (((cntL h : Int) == 1) == b) = true
        have : b = true ↔ cntL h = 1 := by
          rw [hb, ← only_iff h8]
          constructor
          · intro q
            refine ext_getD 0 (by rw [upI_len, pm.len]) fun k hk => ?_
            rw [q k hk, upI_get _ k (by rw [pm.len] at hk; exact hk)]
          · intro q k hk
            rw [q, upI_get _ k (by rw [pm.len] at hk; exact hk)]
        by_cases c : cntL h = 1
        · rw [this.2 c, c]; rfl
        · have hb2 : b = false := by
            cases b
            · rfl
            · exact absurd (this.1 rfl) c
          rw [hb2]
          have : ((cntL h : Int) == 1) = false := by simp; omega
          rw [this]; rfl
    · intro j hj ih b hb
      have hj8 := pm.len
      apply h1; unfold cStoryCounts_1
      rw [hL, if_pos (by simpa using hj)]
      cases b
      · rw [if_neg (by simp)]
        refine ⟨rfl, inI_succ hj (by omega), ih false ?_⟩
        refine ⟨fun q => (by cases q), fun q => hb.2 fun k hk => q k (by omega)⟩
      · rw [if_pos rfl, Int.toNat_natCast]
        refine ⟨idx_nat hj, trivial, inI_succ hj (by omega), ih _ ?_⟩
        show ((lastL h).getD j 0 == (j : Int)) = true ↔ _
        rw [beq_iff_eq]
        constructor
        · intro q k hk
          by_cases c : k = j
          · subst c; exact q
          · exact hb.1 rfl k (by omega)
        · intro q; exact q j (by omega)
  · rw [if_pos (by simpa using e)]
    exact ⟨trivial, rfl, trivial⟩
end Go.Tk
