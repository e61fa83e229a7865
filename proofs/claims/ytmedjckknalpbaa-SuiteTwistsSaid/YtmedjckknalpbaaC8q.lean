import Derived.Test.YtmedjckknalpbaaC8i
import Derived.Test.YtmedjckknalpbaaC8g
import Derived.Test.YtmedjckknalpbaaP8w
set_option linter.unusedSimpArgs false
set_option linter.unusedVariables false
set_option linter.unnecessarySimpa false
namespace Go.Tk
open Go Go.RowKit
abbrev cBehind : Con := { A := (.cons (.sl (.sl .int)) (.cons .int (.cons .int (.cons (.sl .int) .nil)))), R := (.cons .int .nil), pre := fun x => okT x.1 ∧ 0 ≤ x.2.1 ∧ x.2.1.toNat < 2 ^ x.1.length ∧ 0 ≤ x.2.2.1 ∧ x.2.2.1 < x.1.length ∧ x.2.2.2.1.length = 2 ^ x.1.length ∧ (x.2.1.toNat.testBit x.2.2.1.toNat = false → 0 ≤ lstAt x.2.2.2.1 x.2.1.toNat x.2.2.1.toNat ∧ lstAt x.2.2.2.1 x.2.1.toNat x.2.2.1.toNat ≤ 10000), F := fun x => (behT x.1 x.2.1.toNat x.2.2.1.toNat x.2.2.2.1, ()) }
def cBehind_0  (t : (List (List Int))) (set_ : Int) (r : Int) (least : (List Int)) (y0 : Int) : Prop :=
  (0 ≤ r ∧ r < 64) ∧ (True ∧ (if ((IntKind.i64.wrap (BitVec.ofInt 64 (Int.fdiv set_ (2 ^ (Int.toNat r))) &&& BitVec.ofInt 64 (1 : Int)).toNat) == (1 : Int)) = true then ((-1 : Int) = y0 ∧ True) else ((0 ≤ set_ ∧ set_ < 4294967296 ∧ 0 ≤ (List.length t : Int) ∧ (List.length t : Int) ≤ 60) ∧ (List.length ([] : List Int) + List.length (setOf (List.length t : Int).toNat set_.toNat) ≤ 4294967296 ∧ (List.length (([] : List Int) ++ (setOf (List.length t : Int).toNat set_.toNat)) + List.length [r] ≤ 4294967296 ∧ ((okT t ∧ inT t ((([] : List Int) ++ (setOf (List.length t : Int).toNat set_.toNat)) ++ [r]) ∧ ((([] : List Int) ++ (setOf (List.length t : Int).toNat set_.toNat)) ++ [r]).length ≤ 1000000) ∧ ((okT t ∧ inT t (setOf (List.length t : Int).toNat set_.toNat) ∧ (setOf (List.length t : Int).toNat set_.toNat).length ≤ 1000000) ∧ (inI ((List.length (metL t ((([] : List Int) ++ (setOf (List.length t : Int).toNat set_.toNat)) ++ [r])) : Int) - (List.length (metL t (setOf (List.length t : Int).toNat set_.toNat)) : Int)) ∧ (inI ((List.length (setOf (List.length t : Int).toNat set_.toNat) : Int) + (1 : Int)) ∧ (inI (((List.length (metL t ((([] : List Int) ++ (setOf (List.length t : Int).toNat set_.toNat)) ++ [r])) : Int) - (List.length (metL t (setOf (List.length t : Int).toNat set_.toNat)) : Int)) * ((List.length (setOf (List.length t : Int).toNat set_.toNat) : Int) + (1 : Int))) ∧ ((0 ≤ r ∧ r < 64 ∧ inI ((1 : Int) * 2 ^ (Int.toNat r))) ∧ (True ∧ (idx (IntKind.i64.wrap (BitVec.ofInt 64 set_ ||| BitVec.ofInt 64 ((1 : Int) * 2 ^ (Int.toNat r))).toNat) (List.length least : Int) ∧ (inI ((((List.length (metL t ((([] : List Int) ++ (setOf (List.length t : Int).toNat set_.toNat)) ++ [r])) : Int) - (List.length (metL t (setOf (List.length t : Int).toNat set_.toNat)) : Int)) * ((List.length (setOf (List.length t : Int).toNat set_.toNat) : Int) + (1 : Int))) + (List.getD least (Int.toNat (IntKind.i64.wrap (BitVec.ofInt 64 set_ ||| BitVec.ofInt 64 ((1 : Int) * 2 ^ (Int.toNat r))).toNat)) 0)) ∧ (((((List.length (metL t ((([] : List Int) ++ (setOf (List.length t : Int).toNat set_.toNat)) ++ [r])) : Int) - (List.length (metL t (setOf (List.length t : Int).toNat set_.toNat)) : Int)) * ((List.length (setOf (List.length t : Int).toNat set_.toNat) : Int) + (1 : Int))) + (List.getD least (Int.toNat (IntKind.i64.wrap (BitVec.ofInt 64 set_ ||| BitVec.ofInt 64 ((1 : Int) * 2 ^ (Int.toNat r))).toNat)) 0)) = y0 ∧ True)))))))))))))))
theorem cBehind_law (h : ∀ (t : (List (List Int))) (set_ : Int) (r : Int) (least : (List Int)), cBehind.A.wf (t, set_, r, least, ()) → (okT t ∧ 0 ≤ set_ ∧ set_.toNat < 2 ^ t.length ∧ 0 ≤ r ∧ r < t.length ∧ least.length = 2 ^ t.length ∧ (set_.toNat.testBit r.toNat = false → 0 ≤ lstAt least set_.toNat r.toNat ∧ lstAt least set_.toNat r.toNat ≤ 10000)) → cBehind_0  t set_ r least (behT t set_.toNat r.toNat least)) : ConOK Go.Proofs.Try.prog 92 cBehind := by
  refine lawL (Γ := [(71, cMet8r), (63, cSub8r)]) (Θ := Th) (n := 47) [] ⟨cMet8r_ok, cSub8r_ok, trivial⟩ (by kernel_rfl) th_ok mix_ok Go.Proofs.Try.func92 (by kernel_rfl) ?_
  intro x hw hp Λ hC
  have h0 := h x.1 x.2.1 x.2.2.1 x.2.2.2.1 hw hp  
  exact Eq.mpr (by kernel_rfl) h0
theorem cBehind_ok : ConOK Go.Proofs.Try.prog 92 cBehind := by
  refine cBehind_law ?_
  intro t set_ r least hw hp
  unfold cBehind_0
  obtain ⟨ht, s0, s1, r0, r1, hl, hv⟩ := hp
  obtain ⟨s, rfl⟩ : ∃ s : Nat, set_ = s := ⟨set_.toNat, by omega⟩
  obtain ⟨k, rfl⟩ : ∃ k : Nat, r = k := ⟨r.toNat, by omega⟩
  simp only [Int.toNat_natCast] at s1 hv ⊢
  have h8 := ht.1
  have hN : 2 ^ t.length ≤ 256 := Nat.le_trans (Nat.pow_le_pow_right (by omega) h8) (by decide)
  have hk : k < t.length := by omega
  rw [bit_test1 s k (by omega)]
  refine ⟨⟨by omega, by omega⟩, trivial, ?_⟩
  cases hb : s.testBit k
  · rw [if_neg (by simp)]
    have hin := setOf_inT t s
    have hin2 := inT_snoc hin hk
    have hlen := setOf_len t.length s
    have m1 := metL_len t (setOf t.length s)
    have m2 := metL_len t (setOf t.length s ++ [(k : Int)])
    have h10 := ht.2.1
    have hor := or_lt s1 hk
    have hv : 0 ≤ least.getD (s ||| 2 ^ k) 0 ∧ least.getD (s ||| 2 ^ k) 0 ≤ 10000 := hv hb
    have e2 : (2 : Int) ^ k = ((2 ^ k : Nat) : Int) := by simp
    have hk2 : 2 ^ k < 2 ^ t.length := Nat.pow_lt_pow_right (by omega) hk
    have hprod : ∀ (a b c : Int), 0 ≤ a → a ≤ 10 → 0 ≤ b → b ≤ 10 → 0 ≤ c → c ≤ 8 → -1000 ≤ (a - b) * (c + 1) ∧ (a - b) * (c + 1) ≤ 1000 := by
      intro a b c a0 a1 b0 b1 c0 c1
      have q1 : a * (c + 1) ≤ 10 * 9 := Int.mul_le_mul a1 (by omega) (by omega) (by omega)
      have q2 : b * (c + 1) ≤ 10 * 9 := Int.mul_le_mul b1 (by omega) (by omega) (by omega)
      have q3 : 0 ≤ a * (c + 1) := Int.mul_nonneg a0 (by omega)
      have q4 : 0 ≤ b * (c + 1) := Int.mul_nonneg b0 (by omega)
      rw [Int.sub_mul]
      omega
    have hpr := hprod ((metL t (setOf t.length s ++ [(k : Int)])).length) ((metL t (setOf t.length s)).length) ((setOf t.length s).length) (by omega) (by omega) (by omega) (by omega) (by omega) (by omega)
    simp only [List.nil_append]
    rw [bit_or s k (by omega) (by omega), Int.toNat_natCast]
    refine ⟨⟨by omega, by omega, by omega, by omega⟩, by simp; omega, by simp; omega, ⟨ht, hin2, by simp; omega⟩, ⟨ht, hin, by omega⟩, by unfold inI; omega, by unfold inI; omega, by unfold inI; omega, ⟨by omega, by omega, pow_in (by omega)⟩, trivial, idx_nat (by omega), by unfold inI; omega, ?_, trivial⟩
    · unfold behT; rw [if_neg (by simp [hb])]
  · rw [if_pos rfl, beh_neg hb]
    exact ⟨rfl, trivial⟩
abbrev cBestR : Con := { A := (.cons (.sl (.sl .int)) .nil), R := (.cons (.sl .int) (.cons .int (.cons .int .nil))), pre := fun x => True, F := fun x => ((if validT x.1 = 0 then (bestT x.1).1 else []), (if validT x.1 = 0 then (bestT x.1).2 else 0), validT x.1, ()) }
def cBestR_0 (Λ1 : Int → (List Int) → Prop) (Λ2 : Int → Int → (List Int) → Prop) (Λ3 : (List Int) → Int → (List Int) → Prop) (Λ4 : (List Int) → (List Int) → Int → Int → Prop) (t : (List (List Int))) (y0 : (List Int)) (y1 : Int) (y2 : Int) : Prop :=
  True ∧ (if ((validT t) != (0 : Int)) = true then (([] : List Int) = y0 ∧ (0 : Int) = y1 ∧ (validT t) = y2 ∧ True) else ((0 ≤ (List.length t : Int) ∧ (List.length t : Int) < 64 ∧ inI ((1 : Int) * 2 ^ (Int.toNat (List.length t : Int)))) ∧ (inI (((1 : Int) * 2 ^ (Int.toNat (List.length t : Int))) - (1 : Int)) ∧ ((0 ≤ (List.length t : Int) ∧ (List.length t : Int) < 64 ∧ inI ((1 : Int) * 2 ^ (Int.toNat (List.length t : Int)))) ∧ (mkLen ((1 : Int) * 2 ^ (Int.toNat (List.length t : Int))) ((1 : Int) * 2 ^ (Int.toNat (List.length t : Int))) ∧ (inI ((((1 : Int) * 2 ^ (Int.toNat (List.length t : Int))) - (1 : Int)) - (1 : Int)) ∧ Λ1 ((((1 : Int) * 2 ^ (Int.toNat (List.length t : Int))) - (1 : Int)) - (1 : Int)) (List.replicate (Int.toNat ((1 : Int) * 2 ^ (Int.toNat (List.length t : Int)))) (0 : Int))))))))
def cBestR_1 (Λ1 : Int → (List Int) → Prop) (Λ2 : Int → Int → (List Int) → Prop) (Λ3 : (List Int) → Int → (List Int) → Prop) (Λ4 : (List Int) → (List Int) → Int → Int → Prop) (t : (List (List Int))) (y0 : (List Int)) (y1 : Int) (y2 : Int)  (set_1 : Int) (least_1 : (List Int)) : Prop :=
  if (decide (set_1 ≥ (0 : Int))) = true then (idx set_1 (List.length least_1 : Int) ∧ Λ2 set_1 (0 : Int) (List.set least_1 (Int.toNat set_1) (-1))) else Λ3 least_1 (0 : Int) ([] : List Int)
def cBestR_2 (Λ1 : Int → (List Int) → Prop) (Λ2 : Int → Int → (List Int) → Prop) (Λ3 : (List Int) → Int → (List Int) → Prop) (Λ4 : (List Int) → (List Int) → Int → Int → Prop) (t : (List (List Int))) (y0 : (List Int)) (y1 : Int) (y2 : Int) (set_1 : Int) (r_2 : Int) (least_2 : (List Int)) : Prop :=
  if (decide (r_2 < (List.length t : Int))) = true then ((okT t ∧ 0 ≤ set_1 ∧ set_1.toNat < 2 ^ t.length ∧ 0 ≤ r_2 ∧ r_2 < t.length ∧ least_2.length = 2 ^ t.length ∧ (set_1.toNat.testBit r_2.toNat = false → 0 ≤ lstAt least_2 set_1.toNat r_2.toNat ∧ lstAt least_2 set_1.toNat r_2.toNat ≤ 10000)) ∧ (if (decide ((behT t set_1.toNat r_2.toNat least_2) ≥ (0 : Int))) = true then (idx set_1 (List.length least_2 : Int) ∧ (if (decide ((List.getD least_2 (Int.toNat set_1) 0) < (0 : Int))) = true then (true = true ∧ (True ∧ (if (bif true then true else false) = true then (idx set_1 (List.length least_2 : Int) ∧ (inI (r_2 + (1 : Int)) ∧ Λ2 set_1 (r_2 + (1 : Int)) (List.set least_2 (Int.toNat set_1) (behT t set_1.toNat r_2.toNat least_2)))) else (inI (r_2 + (1 : Int)) ∧ Λ2 set_1 (r_2 + (1 : Int)) least_2)))) else (idx set_1 (List.length least_2 : Int) ∧ (True ∧ (True ∧ (if (bif true then (bif false then true else (decide ((behT t set_1.toNat r_2.toNat least_2) < (List.getD least_2 (Int.toNat set_1) 0)))) else false) = true then (idx set_1 (List.length least_2 : Int) ∧ (inI (r_2 + (1 : Int)) ∧ Λ2 set_1 (r_2 + (1 : Int)) (List.set least_2 (Int.toNat set_1) (behT t set_1.toNat r_2.toNat least_2)))) else (inI (r_2 + (1 : Int)) ∧ Λ2 set_1 (r_2 + (1 : Int)) least_2))))))) else (false = false ∧ (inI (r_2 + (1 : Int)) ∧ Λ2 set_1 (r_2 + (1 : Int)) least_2)))) else (inI (set_1 - (1 : Int)) ∧ Λ1 (set_1 - (1 : Int)) least_2)
def cBestR_3 (Λ1 : Int → (List Int) → Prop) (Λ2 : Int → Int → (List Int) → Prop) (Λ3 : (List Int) → Int → (List Int) → Prop) (Λ4 : (List Int) → (List Int) → Int → Int → Prop) (t : (List (List Int))) (y0 : (List Int)) (y1 : Int) (y2 : Int) (least_1 : (List Int)) (set_3 : Int) (out_3 : (List Int)) : Prop :=
  if (decide ((List.length out_3 : Int) < (List.length t : Int))) = true then Λ4 least_1 out_3 set_3 (0 : Int) else (idx (0 : Int) (List.length least_1 : Int) ∧ (out_3 = y0 ∧ (List.getD least_1 (Int.toNat (0 : Int)) 0) = y1 ∧ (0 : Int) = y2 ∧ True))
def cBestR_4 (Λ1 : Int → (List Int) → Prop) (Λ2 : Int → Int → (List Int) → Prop) (Λ3 : (List Int) → Int → (List Int) → Prop) (Λ4 : (List Int) → (List Int) → Int → Int → Prop) (t : (List (List Int))) (y0 : (List Int)) (y1 : Int) (y2 : Int) (least_1 : (List Int)) (out_3 : (List Int)) (set_3 : Int) (r_4 : Int) : Prop :=
  if (decide (r_4 < (List.length t : Int))) = true then ((okT t ∧ 0 ≤ set_3 ∧ set_3.toNat < 2 ^ t.length ∧ 0 ≤ r_4 ∧ r_4 < t.length ∧ least_1.length = 2 ^ t.length ∧ (set_3.toNat.testBit r_4.toNat = false → 0 ≤ lstAt least_1 set_3.toNat r_4.toNat ∧ lstAt least_1 set_3.toNat r_4.toNat ≤ 10000)) ∧ (idx set_3 (List.length least_1 : Int) ∧ (if ((behT t set_3.toNat r_4.toNat least_1) == (List.getD least_1 (Int.toNat set_3) 0)) = true then (List.length out_3 + List.length [r_4] ≤ 4294967296 ∧ ((0 ≤ r_4 ∧ r_4 < 64 ∧ inI ((1 : Int) * 2 ^ (Int.toNat r_4))) ∧ (True ∧ Λ3 least_1 (IntKind.i64.wrap (BitVec.ofInt 64 set_3 ||| BitVec.ofInt 64 ((1 : Int) * 2 ^ (Int.toNat r_4))).toNat) (out_3 ++ [r_4])))) else (inI (r_4 + (1 : Int)) ∧ Λ4 least_1 out_3 set_3 (r_4 + (1 : Int)))))) else Λ3 least_1 set_3 out_3
theorem cBestR_law (h : ∀ (t : (List (List Int))), cBestR.A.wf (t, ()) → ∀ (Λ1 : Int → (List Int) → Prop) (Λ2 : Int → Int → (List Int) → Prop) (Λ3 : (List Int) → Int → (List Int) → Prop) (Λ4 : (List Int) → (List Int) → Int → Int → Prop), (∀ (set_1 : Int) (least_1 : (List Int)), cBestR_1 Λ1 Λ2 Λ3 Λ4 t (if validT t = 0 then (bestT t).1 else []) (if validT t = 0 then (bestT t).2 else 0) (validT t) set_1 least_1 → Λ1 set_1 least_1) → (∀ (set_1 : Int) (r_2 : Int) (least_2 : (List Int)), cBestR_2 Λ1 Λ2 Λ3 Λ4 t (if validT t = 0 then (bestT t).1 else []) (if validT t = 0 then (bestT t).2 else 0) (validT t) set_1 r_2 least_2 → Λ2 set_1 r_2 least_2) → (∀ (least_1 : (List Int)) (set_3 : Int) (out_3 : (List Int)), cBestR_3 Λ1 Λ2 Λ3 Λ4 t (if validT t = 0 then (bestT t).1 else []) (if validT t = 0 then (bestT t).2 else 0) (validT t) least_1 set_3 out_3 → Λ3 least_1 set_3 out_3) → (∀ (least_1 : (List Int)) (out_3 : (List Int)) (set_3 : Int) (r_4 : Int), cBestR_4 Λ1 Λ2 Λ3 Λ4 t (if validT t = 0 then (bestT t).1 else []) (if validT t = 0 then (bestT t).2 else 0) (validT t) least_1 out_3 set_3 r_4 → Λ4 least_1 out_3 set_3 r_4) → cBestR_0 Λ1 Λ2 Λ3 Λ4 t (if validT t = 0 then (bestT t).1 else []) (if validT t = 0 then (bestT t).2 else 0) (validT t)) : ConOK Go.Proofs.Try.prog 44 cBestR := by
  refine lawL (Γ := [(92, cBehind), (36, cVal8r)]) (Θ := Th) (n := 99) [([1, 1, 1, 1, 1, 1, 0, 1, 0], ⟨[(0, false), (6, true), (8, true), (9, true)], [(27, true)]⟩), ([1, 1, 1, 1, 1, 1, 0, 1, 0, 0, 1, 0, 0, 1, 1, 0], ⟨[(0, false), (6, true), (8, true), (9, true), (10, true)], [(27, true)]⟩), ([1, 1, 1, 1, 1, 1, 1, 1, 1, 0, 0], ⟨[(0, false), (6, true), (8, true), (12, true), (13, true)], [(12, true), (27, true)]⟩), ([1, 1, 1, 1, 1, 1, 1, 1, 1, 0, 0, 0, 1, 0, 1, 0], ⟨[(0, false), (6, true), (8, true), (12, true), (13, true), (14, true)], [(12, true), (27, true)]⟩)] ⟨cBehind_ok, cVal8r_ok, trivial⟩ (by kernel_rfl) th_ok mix_ok Go.Proofs.Try.func44 (by kernel_rfl) ?_
  intro x hw hp Λ hC
  have h0 := h x.1 hw (fun set_1 least_1 => Λ [1, 1, 1, 1, 1, 1, 0, 1, 0] ([(0, .d false (.sl (.sl .int)) x.1), (6, .d true .int (List.length x.1 : Int)), (8, .own 27 0), (9, .d true .int set_1)], [(27, .sl true .int least_1)])) (fun set_1 r_2 least_2 => Λ [1, 1, 1, 1, 1, 1, 0, 1, 0, 0, 1, 0, 0, 1, 1, 0] ([(0, .d false (.sl (.sl .int)) x.1), (6, .d true .int (List.length x.1 : Int)), (8, .own 27 0), (9, .d true .int set_1), (10, .d true .int r_2)], [(27, .sl true .int least_2)])) (fun least_1 set_3 out_3 => Λ [1, 1, 1, 1, 1, 1, 1, 1, 1, 0, 0] ([(0, .d false (.sl (.sl .int)) x.1), (6, .d true .int (List.length x.1 : Int)), (8, .own 27 0), (12, .own 12 0), (13, .d true .int set_3)], [(12, .sl true .int out_3), (27, .sl true .int least_1)])) (fun least_1 out_3 set_3 r_4 => Λ [1, 1, 1, 1, 1, 1, 1, 1, 1, 0, 0, 0, 1, 0, 1, 0] ([(0, .d false (.sl (.sl .int)) x.1), (6, .d true .int (List.length x.1 : Int)), (8, .own 27 0), (12, .own 12 0), (13, .d true .int set_3), (14, .d true .int r_4)], [(12, .sl true .int out_3), (27, .sl true .int least_1)])) (fun set_1 least_1 hb => hC [1, 1, 1, 1, 1, 1, 0, 1, 0] ([(0, .d false (.sl (.sl .int)) x.1), (6, .d true .int (List.length x.1 : Int)), (8, .own 27 0), (9, .d true .int set_1)], [(27, .sl true .int least_1)]) (Eq.mpr (by kernel_rfl) hb)) (fun set_1 r_2 least_2 hb => hC [1, 1, 1, 1, 1, 1, 0, 1, 0, 0, 1, 0, 0, 1, 1, 0] ([(0, .d false (.sl (.sl .int)) x.1), (6, .d true .int (List.length x.1 : Int)), (8, .own 27 0), (9, .d true .int set_1), (10, .d true .int r_2)], [(27, .sl true .int least_2)]) (Eq.mpr (by kernel_rfl) hb)) (fun least_1 set_3 out_3 hb => hC [1, 1, 1, 1, 1, 1, 1, 1, 1, 0, 0] ([(0, .d false (.sl (.sl .int)) x.1), (6, .d true .int (List.length x.1 : Int)), (8, .own 27 0), (12, .own 12 0), (13, .d true .int set_3)], [(12, .sl true .int out_3), (27, .sl true .int least_1)]) (Eq.mpr (by kernel_rfl) hb)) (fun least_1 out_3 set_3 r_4 hb => hC [1, 1, 1, 1, 1, 1, 1, 1, 1, 0, 0, 0, 1, 0, 1, 0] ([(0, .d false (.sl (.sl .int)) x.1), (6, .d true .int (List.length x.1 : Int)), (8, .own 27 0), (12, .own 12 0), (13, .d true .int set_3), (14, .d true .int r_4)], [(12, .sl true .int out_3), (27, .sl true .int least_1)]) (Eq.mpr (by kernel_rfl) hb))
  exact Eq.mpr (by kernel_rfl) h0
theorem cBestR_ok : ConOK Go.Proofs.Try.prog 44 cBestR := by
  refine cBestR_law ?_
  intro t hw Λ1 Λ2 Λ3 Λ4 h1 h2 h3 h4
  unfold cBestR_0
  refine ⟨trivial, ?_⟩
  by_cases h0 : validT t = 0
  · rw [if_neg (by simp [h0])]
    have ht := validT_ok.1 h0
    have h8 := ht.1
    rw [if_pos h0, if_pos h0, h0] at h1 h2 h3 h4
    have hN1 : 1 ≤ 2 ^ t.length := Nat.one_le_two_pow
    have hN2 : 2 ^ t.length ≤ 256 := Nat.le_trans (Nat.pow_le_pow_right (by omega) h8) (by decide)
    have e2 : (1 : Int) * 2 ^ (Int.toNat (t.length : Int)) = ((2 ^ t.length : Nat) : Int) := by rw [Int.toNat_natCast, Int.one_mul]; simp
    rw [e2, Int.toNat_natCast]
    have hlst := lst_bound ht
    refine ⟨⟨by omega, by omega, by unfold inI; omega⟩, by unfold inI; omega, ⟨by omega, by omega, by unfold inI; omega⟩, by unfold mkLen; omega, by unfold inI; omega, ?_⟩
    have hT3 : ∀ (least : List Int), tabT t 0 least → ∀ k, k ≤ t.length → ∀ (s : Nat) (out : List Int), s < 2 ^ t.length → outI t k s out → Λ3 least (s : Int) out := by
      intro least hl
      have hll := hl.1
      refine upto ?_ ?_
      · intro s out hs ho
        have hol := ho.2.1
        apply h3; unfold cBestR_3
        rw [if_neg (by simp; omega)]
        refine ⟨by unfold idx; omega, outI_end ho, ?_, rfl, trivial⟩
        rw [show Int.toNat (0 : Int) = 0 from rfl, hl.2 0 (by omega) (by omega), lst_zero]
      · intro k hk ih s out hs ho
        have hol := ho.2.1
        apply h3; unfold cBestR_3
        rw [if_pos (by simp; omega)]
        obtain ⟨r, g1, g2, g3, g4⟩ := outI_next ht ho hk hs hl
        refine upto (n := t.length) (Q := fun i => (∀ x, x < i → behT t s x least ≠ lstT t s) → Λ4 least out (s : Int) (i : Int)) ?_ ?_ 0 (Nat.zero_le _) (fun x hx => absurd hx (by omega))
        · intro hn
          exact absurd g2 (hn r g1)
        · intro i hi ih4 hn
          apply h4; unfold cBestR_4
          rw [if_pos (by simpa using hi)]
          simp only [Int.toNat_natCast]
          refine ⟨⟨ht, by omega, hs, by omega, by omega, hl.1, fun hb => ?_⟩, idx_nat (by omega), ?_⟩
          · have := hlst (s ||| 2 ^ i)
            show 0 ≤ least.getD (s ||| 2 ^ i) 0 ∧ least.getD (s ||| 2 ^ i) 0 ≤ 10000
            rw [hl.2 _ (Nat.zero_le _) (or_lt hs hi)]
            omega
          · rw [hl.2 s (Nat.zero_le _) hs]
            by_cases hx : behT t s i least = lstT t s
            · rw [if_pos (by simpa using hx)]
              have e : i = r := by
                rcases Nat.lt_trichotomy i r with h | h | h
                · exact absurd hx (g3 i h)
                · exact h
                · exact absurd g2 (hn r h)
              rw [bit_or s i (by omega) (by omega)]
              refine ⟨by simp; omega, ⟨by omega, by omega, pow_in (by omega)⟩, trivial, ?_⟩
              rw [e]
              exact ih _ _ (or_lt hs g1) g4
            · rw [if_neg (by simpa using hx)]
              exact ⟨by unfold inI; omega, ih4 fun x hx2 => by
                by_cases e : x = i
                · rw [e]; exact hx
                · exact hn x (by omega)⟩
    have hT1 : ∀ m, m + 1 ≤ 2 ^ t.length → ∀ least, tabT t m least → Λ1 ((m : Int) - 1) least := by
      intro m
      induction m with
      | zero =>
        intro _ least hl
        apply h1; unfold cBestR_1
        rw [if_neg (by simp)]
        exact hT3 least hl 0 (Nat.zero_le _) 0 [] (by omega) (outI_zero t)
      | succ m ih =>
        intro hm least hl
        apply h1; unfold cBestR_1
        rw [show ((m + 1 : Nat) : Int) - 1 = (m : Int) by omega, if_pos (by simp), Int.toNat_natCast]
        have hll := hl.1
        refine ⟨idx_nat (by omega), ?_⟩
        have key : ∀ i, i ≤ t.length → ∀ l2 : List Int, l2.length = 2 ^ t.length → (∀ j, m < j → j < 2 ^ t.length → l2.getD j 0 = lstT t j) → minI t m i (l2.getD m 0) → Λ2 (m : Int) (i : Int) l2 := by
          refine upto ?_ ?_
          · intro l2 e1 e2 e3
            apply h2; unfold cBestR_2
            rw [if_neg (by simp)]
            refine ⟨by unfold inI; omega, ih (by omega) l2 ⟨e1, fun j j1 j2 => ?_⟩⟩
            by_cases e : j = m
            · rw [e]; exact minI_end hm e3
            · exact e2 j (by omega) j2
          · intro i hi ih2 l2 e1 e2 e3
            apply h2; unfold cBestR_2
            rw [if_pos (by simpa using hi), Int.toNat_natCast, Int.toNat_natCast]
            refine ⟨⟨ht, by omega, by omega, by omega, by omega, e1, fun hb => ?_⟩, ?_⟩
            · have := hlst (m ||| 2 ^ i)
              show 0 ≤ l2.getD (m ||| 2 ^ i) 0 ∧ l2.getD (m ||| 2 ^ i) 0 ≤ 10000
              rw [e2 _ (or_gt hb) (or_lt (by omega) hi)]
              omega
            · have hset : ∀ v : Int, (l2.set m v).length = 2 ^ t.length ∧ (∀ j, m < j → j < 2 ^ t.length → (l2.set m v).getD j 0 = lstT t j) ∧ (l2.set m v).getD m 0 = v := by
                intro v
                refine ⟨by simp [e1], fun j j1 j2 => ?_, ?_⟩
                · rw [List.getD_eq_getElem?_getD, List.getElem?_set_ne (by omega), ← List.getD_eq_getElem?_getD]
                  exact e2 j j1 j2
                · rw [List.getD_eq_getElem?_getD, List.getElem?_set_self (by omega)]; rfl
              cases hb : m.testBit i
              · have hoff := tab_off (t := t) (by omega) hi hb e2
                obtain ⟨s1, s2⟩ := minI_step e3 hb hoff
                have hpos : 0 ≤ behT t m i l2 := by
                  rw [hoff]
                  have h5 := off_pos t (setOf t.length m) i
                  have h6 : 0 ≤ ((setOf t.length m).length : Int) * (leftT t (setOf t.length m) : Int) := Int.mul_nonneg (by omega) (by omega)
                  omega
                clear hoff
                generalize behT t m i l2 = w at s1 s2 hpos ⊢
                rw [if_pos (by simpa using hpos)]
                refine ⟨idx_nat (by omega), ?_⟩
                by_cases c1 : l2.getD m 0 < 0
                · rw [if_pos (by simpa using c1)]
                  refine ⟨rfl, trivial, ?_⟩
                  rw [if_pos (by simp)]
                  obtain ⟨t1, t2, t3⟩ := hset w
                  exact ⟨idx_nat (by omega), by unfold inI; omega, ih2 _ t1 t2 (by rw [t3]; exact s1 (.inl c1))⟩
                · rw [if_neg (by simpa using c1)]
                  refine ⟨idx_nat (by omega), trivial, trivial, ?_⟩
                  by_cases c2 : w < l2.getD m 0
                  · rw [if_pos (by rw [show decide (w < l2.getD m 0) = true from decide_eq_true c2]; rfl)]
                    obtain ⟨t1, t2, t3⟩ := hset w
                    exact ⟨idx_nat (by omega), by unfold inI; omega, ih2 _ t1 t2 (by rw [t3]; exact s1 (.inr c2))⟩
                  · rw [if_neg (by rw [show decide (w < l2.getD m 0) = false from decide_eq_false c2]; exact Bool.false_ne_true)]
                    exact ⟨by unfold inI; omega, ih2 _ e1 e2 (s2 (by omega))⟩
              · rw [beh_neg hb, if_neg (by simp)]
                exact ⟨rfl, by unfold inI; omega, ih2 _ e1 e2 (minI_skip e3 hb)⟩
        refine key 0 (Nat.zero_le _) _ (by simp [hll]) (fun j j1 j2 => ?_) (.inl ⟨?_, fun x hx => absurd hx (by omega)⟩)
        · rw [List.getD_eq_getElem?_getD, List.getElem?_set_ne (by omega), ← List.getD_eq_getElem?_getD]
          exact hl.2 j (by omega) j2
        · rw [List.getD_eq_getElem?_getD, List.getElem?_set_self (by omega)]; rfl
    have := hT1 (2 ^ t.length - 1) (by omega) _ (tab_start t)
    rw [show (((2 ^ t.length - 1 : Nat) : Int)) = ((2 ^ t.length : Nat) : Int) - 1 by omega] at this
    exact this
  · rw [if_pos (by simp [h0])]
    simp [h0]
abbrev cIndexN : Con := { A := (.cons (.sl .int) (.cons .int .nil)), R := (.cons .int .nil), pre := fun x => True, F := fun x => (idxF (fun r' => x.2.1 == r') x.1, ()) }
def cIndexN_0 (Λ1 : Int → Prop) (s : (List Int)) (v : Int) (y0 : Int) : Prop :=
  Λ1 (0 : Int)
def cIndexN_1 (Λ1 : Int → Prop) (s : (List Int)) (v : Int) (y0 : Int)  (t8_1 : Int) : Prop :=
  if (decide (t8_1 < (List.length s : Int))) = true then (idx t8_1 (List.length s : Int) ∧ (if (v == (List.getD s (Int.toNat t8_1) 0)) = true then (t8_1 = y0 ∧ True) else (inI (t8_1 + (1 : Int)) ∧ Λ1 (t8_1 + (1 : Int))))) else ((-1 : Int) = y0 ∧ True)
theorem cIndexN_law (h : ∀ (s : (List Int)) (v : Int), cIndexN.A.wf (s, v, ()) → ∀ (Λ1 : Int → Prop), (∀ (t8_1 : Int), cIndexN_1 Λ1 s v (idxF (fun r' => v == r') s) t8_1 → Λ1 t8_1) → cIndexN_0 Λ1 s v (idxF (fun r' => v == r') s)) : ConOK Go.Proofs.Try.prog 110 cIndexN := by
  refine lawL (Γ := []) (Θ := Th) (n := 19) [([1, 0, 1, 0], ⟨[(0, false), (1, false), (7, true), (8, true)], []⟩)] trivial (by kernel_rfl) th_ok mix_ok Go.Proofs.Try.func110 (by kernel_rfl) ?_
  intro x hw hp Λ hC
  have h0 := h x.1 x.2.1 hw (fun t8_1 => Λ [1, 0, 1, 0] ([(0, .d false (.sl .int) x.1), (1, .d false .int x.2.1), (7, .d true .int (List.length x.1 : Int)), (8, .d true .int t8_1)], [])) (fun t8_1 hb => hC [1, 0, 1, 0] ([(0, .d false (.sl .int) x.1), (1, .d false .int x.2.1), (7, .d true .int (List.length x.1 : Int)), (8, .d true .int t8_1)], []) (Eq.mpr (by kernel_rfl) hb))
  exact Eq.mpr (by kernel_rfl) h0
theorem cIndexN_ok : ConOK Go.Proofs.Try.prog 110 cIndexN := by
  refine cIndexN_law ?_
  intro s v hw Λ1 h1
  unfold cIndexN_0
  refine upto (n := s.length) (Q := fun i => (s.take i).any (fun r => v == r) = false → Λ1 i) ?_ ?_ 0 (Nat.zero_le _) rfl
  · intro ha
    rw [List.take_length] at ha
    apply h1; unfold cIndexN_1; rw [if_neg (by simp), idxF_none ha]
    exact ⟨rfl, trivial⟩
  · intro i hi ih ha
    apply h1; unfold cIndexN_1; rw [if_pos (by simpa using hi), Int.toNat_natCast]
    refine ⟨idx_nat hi, ?_⟩
    cases hv : (v == List.getD s i 0)
    · rw [if_neg (by simp)]
      exact ⟨inI_succ hi hw.1.1, ih (any_take_next (p := fun r => v == r) 0 hi ha hv)⟩
    · rw [if_pos (by rfl), idxF_at (p := fun r => v == r) 0 hi ha hv]
      exact ⟨rfl, trivial⟩
abbrev cContN : Con := { A := (.cons (.sl .int) (.cons .int .nil)), R := (.cons .bool .nil), pre := fun x => True, F := fun x => (decide (x.2.1 ∈ x.1), ()) }
def cContN_0  (s : (List Int)) (v : Int) (y0 : Bool) : Prop :=
  True ∧ ((decide ((idxF (fun r' => v == r') s) ≥ (0 : Int))) = y0 ∧ True)
theorem cContN_law (h : ∀ (s : (List Int)) (v : Int), cContN.A.wf (s, v, ()) → cContN_0  s v (decide (v ∈ s))) : ConOK Go.Proofs.Try.prog 90 cContN := by
  refine lawL (Γ := [(110, cIndexN)]) (Θ := Th) (n := 9) [] ⟨cIndexN_ok, trivial⟩ (by kernel_rfl) th_ok mix_ok Go.Proofs.Try.func90 (by kernel_rfl) ?_
  intro x hw hp Λ hC
  have h0 := h x.1 x.2.1 hw  
  exact Eq.mpr (by kernel_rfl) h0
theorem cContN_ok : ConOK Go.Proofs.Try.prog 90 cContN := by
  refine cContN_law ?_
  intro s v hw
  unfold cContN_0
  refine ⟨trivial, ?_, trivial⟩
  rw [idxF_any, Bool.eq_iff_iff]
  simp
end Go.Tk
