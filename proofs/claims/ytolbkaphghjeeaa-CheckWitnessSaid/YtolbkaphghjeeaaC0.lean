import Derived.Test.YtolbkaphghjeeaaTy
import Derived.Test.YtolbkaphghjeeaaP1
import Derived.Shelf.Bits.Mul64
import Derived.Shelf.Lay
import Derived.Ground.NamesProg
set_option linter.unusedSimpArgs false
set_option linter.unusedVariables false
namespace Go.Proofs
open Go.Shelf Go.RowKit
shelf_lay Lays.n212 Nm 212 at Try as Try.layMul
theorem Try.mul_num : Try.layMul_ren.f 212 = 125 := by kernel_rfl
end Go.Proofs
namespace Go.Tk
open Go Go.RowKit Go.Shelf

theorem inN_mem : ∀ {l : List Nat} {n : Nat}, inN l n = true → n ∈ l
  | k :: l, n, h => by
    unfold inN at h
    split at h
    · rename_i e
      rw [Nat.eq_of_beq_eq_true e]; exact List.mem_cons_self
    · exact List.mem_cons_of_mem _ (inN_mem h)

def uB (P : Program) (l : List Nat) : Bool := l.all fun i => match P.underlying i with
  | some (.int .u64) => true
  | _ => false

theorem xok (X : Xtr) (h1 : X.U = [12, 121, 140] := by rfl) (h2 : X.mul = [125] := by rfl) : XOK Go.Proofs.Try.prog X := by
  obtain ⟨sb, fz, u, mu, a1, a2, a3⟩ := X
  subst h1
  subst h2
  refine ⟨fun i h => ?_, fun f h => ?_⟩
  · have hb : uB Go.Proofs.Try.prog [12, 121, 140] = true := by kernel_rfl
    have := List.all_eq_true.1 hb i (inN_mem h)
    revert this
    cases Go.Proofs.Try.prog.underlying i with
    | none => intro h; cases h
    | some u => cases u with
      | int k => cases k <;> intro h <;> first | rfl | cases h
      | _ => intro h; cases h
  · have hm := inN_mem h
    have e : f = 125 := by simpa using hm
    subst e
    refine ⟨funB_ok (by kernel_rfl), fun x y w hx hy => ?_⟩
    have := Go.Proofs.Any.bits_Mul Go.Proofs.Try.layMul x y hx hy w
    rw [Go.Proofs.Try.mul_num] at this
    exact this

abbrev cRepeat : Con := { A := (.cons (.sl tRa) (.cons .int .nil)), R := (.cons (.osl tRa) .nil), pre := fun x => x.1.length = 1 ∧ 0 ≤ x.2.1 ∧ x.2.1 ≤ 1000, F := fun x => (List.replicate (Int.toNat x.2.1) (List.getD x.1 0 tRa.dflt), ()) }
def cRepeat_0 (Λ1 : Prop) (Λ2 : Prop) (Λ3 : Int → (List Rtl) → Prop) (x : (List Rtl)) (count : Int) (y0 : (List Rtl)) : Prop :=
  if (decide (count < (0 : Int))) = true then False else Λ1
def cRepeat_1 (Λ1 : Prop) (Λ2 : Prop) (Λ3 : Int → (List Rtl) → Prop) (x : (List Rtl)) (count : Int) (y0 : (List Rtl))   : Prop :=
  (0 ≤ (IntKind.u64.wrap (List.length x : Int)) ∧ (IntKind.u64.wrap (List.length x : Int)) < 18446744073709551616 ∧ 0 ≤ (IntKind.u64.wrap count) ∧ (IntKind.u64.wrap count) < 18446744073709551616) ∧ (if (decide (((IntKind.u64.wrap (List.length x : Int)) * (IntKind.u64.wrap count) / 18446744073709551616) > (0 : Int))) = true then (true = true ∧ False) else (True ∧ (if (bif false then true else (decide (((IntKind.u64.wrap (List.length x : Int)) * (IntKind.u64.wrap count) % 18446744073709551616) > (9223372036854775807 : Int)))) = true then False else Λ2 )))
def cRepeat_2 (Λ1 : Prop) (Λ2 : Prop) (Λ3 : Int → (List Rtl) → Prop) (x : (List Rtl)) (count : Int) (y0 : (List Rtl))   : Prop :=
  mkLen (IntKind.i64.wrap ((IntKind.u64.wrap (List.length x : Int)) * (IntKind.u64.wrap count) % 18446744073709551616)) (IntKind.i64.wrap ((IntKind.u64.wrap (List.length x : Int)) * (IntKind.u64.wrap count) % 18446744073709551616)) ∧ Λ3 ((min (List.length (List.replicate (Int.toNat (IntKind.i64.wrap ((IntKind.u64.wrap (List.length x : Int)) * (IntKind.u64.wrap count) % 18446744073709551616))) tRa.dflt)) (List.length x) : Nat) : Int) (List.append (List.take (List.length (List.replicate (Int.toNat (IntKind.i64.wrap ((IntKind.u64.wrap (List.length x : Int)) * (IntKind.u64.wrap count) % 18446744073709551616))) tRa.dflt)) x) (List.drop (List.length x) (List.replicate (Int.toNat (IntKind.i64.wrap ((IntKind.u64.wrap (List.length x : Int)) * (IntKind.u64.wrap count) % 18446744073709551616))) tRa.dflt)))
def cRepeat_3 (Λ1 : Prop) (Λ2 : Prop) (Λ3 : Int → (List Rtl) → Prop) (x : (List Rtl)) (count : Int) (y0 : (List Rtl))  (n_3 : Int) (newslice_3 : (List Rtl)) : Prop :=
  if (decide (n_3 < (List.length newslice_3 : Int))) = true then ((0 ≤ n_3 ∧ n_3 ≤ (List.length newslice_3 : Int) ∧ (List.length newslice_3 : Int) ≤ (List.length newslice_3 : Int) ∧ (List.length newslice_3 : Int) ≤ (List.length newslice_3 : Int)) ∧ ((0 ≤ (0 : Int) ∧ (0 : Int) ≤ n_3 ∧ n_3 ≤ (List.length newslice_3 : Int) ∧ (List.length newslice_3 : Int) ≤ (List.length newslice_3 : Int)) ∧ (inI (n_3 + (((min ((Int.toNat (List.length newslice_3 : Int)) - (Int.toNat n_3)) ((Int.toNat n_3) - (Int.toNat (0 : Int)))) : Nat) : Int)) ∧ Λ3 (n_3 + (((min ((Int.toNat (List.length newslice_3 : Int)) - (Int.toNat n_3)) ((Int.toNat n_3) - (Int.toNat (0 : Int)))) : Nat) : Int)) (List.append (List.append (List.take (Int.toNat n_3) newslice_3) (List.take ((Int.toNat (List.length newslice_3 : Int)) - (Int.toNat n_3)) (List.drop (Int.toNat (0 : Int)) (List.take (Int.toNat n_3) newslice_3)))) (List.drop ((Int.toNat n_3) + (min ((Int.toNat (List.length newslice_3 : Int)) - (Int.toNat n_3)) ((Int.toNat n_3) - (Int.toNat (0 : Int))))) newslice_3))))) else newslice_3 = y0
theorem cRepeat_law (h : ∀ (x : (List Rtl)) (count : Int), cRepeat.A.wf (x, count, ()) → (x.length = 1 ∧ 0 ≤ count ∧ count ≤ 1000) → ∀ (Λ1 : Prop) (Λ2 : Prop) (Λ3 : Int → (List Rtl) → Prop), (cRepeat_1 Λ1 Λ2 Λ3 x count (List.replicate (Int.toNat count) (List.getD x 0 tRa.dflt)) → Λ1) → (cRepeat_2 Λ1 Λ2 Λ3 x count (List.replicate (Int.toNat count) (List.getD x 0 tRa.dflt)) → Λ2) → (∀ (n_3 : Int) (newslice_3 : (List Rtl)), cRepeat_3 Λ1 Λ2 Λ3 x count (List.replicate (Int.toNat count) (List.getD x 0 tRa.dflt)) n_3 newslice_3 → Λ3 n_3 newslice_3) → cRepeat_0 Λ1 Λ2 Λ3 x count (List.replicate (Int.toNat count) (List.getD x 0 tRa.dflt))) : ConOK Go.Proofs.Try.prog 107 cRepeat := by
  refine lawX (X := { subs := [41, 44], frz := [], U := [12, 121, 140], mul := [125], nst := [], nls := [], itf := none }) (hX := xok _) (Γ := []) (Θ := Th) (n := 48) [([1, 2], ⟨[(0, false), (1, false)], []⟩), ([1, 1, 1, 2], ⟨[(0, false), (6, true)], []⟩), ([1, 1, 1, 1, 1, 1, 0, 0], ⟨[(7, true), (8, true)], [(30, true)]⟩)] trivial (by kernel_rfl) th_ok mix_ok Go.Proofs.Try.func107 (by kernel_rfl) ?_
  intro x hw hp Λ hC
  have h0 := h x.1 x.2.1 hw hp (Λ [1, 2] ([(0, .d false (.sl tRa) x.1), (1, .d false .int x.2.1)], [])) (Λ [1, 1, 1, 2] ([(0, .d false (.sl tRa) x.1), (6, .c (.int .u64 ((IntKind.u64.wrap (List.length x.1 : Int)) * (IntKind.u64.wrap x.2.1) % 18446744073709551616)))], [])) (fun n_3 newslice_3 => Λ [1, 1, 1, 1, 1, 1, 0, 0] ([(7, .own 30 0), (8, .d true .int n_3)], [(30, .sl true tRa newslice_3)])) (fun  hb => hC [1, 2] ([(0, .d false (.sl tRa) x.1), (1, .d false .int x.2.1)], []) (Eq.mpr (by kernel_rfl) hb)) (fun  hb => hC [1, 1, 1, 2] ([(0, .d false (.sl tRa) x.1), (6, .c (.int .u64 ((IntKind.u64.wrap (List.length x.1 : Int)) * (IntKind.u64.wrap x.2.1) % 18446744073709551616)))], []) (Eq.mpr (by kernel_rfl) hb)) (fun n_3 newslice_3 hb => hC [1, 1, 1, 1, 1, 1, 0, 0] ([(7, .own 30 0), (8, .d true .int n_3)], [(30, .sl true tRa newslice_3)]) (Eq.mpr (by kernel_rfl) hb))
  exact Eq.mpr (by kernel_rfl) h0
theorem cRepeat_ok : ConOK Go.Proofs.Try.prog 107 cRepeat := by
  refine cRepeat_law ?_
  intro x count hw hp Λ1 Λ2 Λ3 h1 h2 h3
  unfold cRepeat_0
  obtain ⟨p1, p2, p3⟩ := hp
  obtain ⟨r, rfl⟩ : ∃ r, x = [r] := by
    match x, p1 with
    | [r], _ => exact ⟨r, rfl⟩
  obtain ⟨C, rfl⟩ := Int.eq_ofNat_of_zero_le p2
  have hC : C ≤ 1000 := by omega
  have wx : IntKind.u64.wrap (([r].length : Nat) : Int) = 1 := by rw [IntKind.wrap_u64]; rfl
  have wc : IntKind.u64.wrap (C : Int) = C := by rw [IntKind.wrap_u64]; omega
  have wm : (1 : Int) * (C : Int) % 18446744073709551616 = C := by omega
  have wd : (1 : Int) * (C : Int) / 18446744073709551616 = 0 := by omega
  have wi : IntKind.i64.wrap (C : Int) = C := wrap_in (by unfold inI; omega)
  have key : ∀ k n (l : List Rtl), C - n ≤ k → l.length = C → n ≤ C → (n = 0 → C = 0) → l.take n = List.replicate n r → Λ3 (n : Int) l := by
    intro k
    induction k with
    | zero =>
      intro n l h0 hl hn hz ht
      have : n = C := by omega
      subst this
      apply h3; unfold cRepeat_3
      rw [if_neg (by rw [hl]; simp)]
      rw [List.take_of_length_le (by omega)] at ht
      exact ht
    | succ k ih =>
      intro n l h0 hl hn hz ht
      by_cases hlt : n < C
      · apply h3; unfold cRepeat_3
        rw [if_pos (by rw [hl]; simpa using hlt)]
        simp only [Int.toNat_natCast, Int.toNat_zero, hl, Nat.sub_zero, List.drop_zero]
        refine ⟨by omega, by omega, by unfold inI; omega, ?_⟩
        have e : ((n : Int) + ((min (C - n) n : Nat) : Int)) = ((n + min (C - n) n : Nat) : Int) := by omega
        rw [e, ht]
        have l1 : (List.replicate n r ++ (List.replicate n r).take (C - n)) = List.replicate (n + min (C - n) n) r := by rw [List.take_replicate, List.replicate_append_replicate]
        show Λ3 _ ((List.replicate n r ++ (List.replicate n r).take (C - n)) ++ l.drop (n + min (C - n) n))
        rw [l1]
        refine ih _ _ (by omega) (by simp; omega) (by omega) (by omega) ?_
        rw [List.take_left' (by simp)]
      · have : n = C := by omega
        subst this
        apply h3; unfold cRepeat_3
        rw [if_neg (by rw [hl]; simp)]
        rw [List.take_of_length_le (by omega)] at ht
        exact ht
  rw [if_neg (by simp)]
  apply h1; unfold cRepeat_1
  rw [wx, wc, wm, wd]
  refine ⟨by omega, ?_⟩
  rw [if_neg (by simp)]
  refine ⟨trivial, ?_⟩
  rw [if_neg (by simp; omega)]
  apply h2; unfold cRepeat_2
  rw [wx, wc, wm, wi]
  refine ⟨by unfold mkLen; omega, ?_⟩
  simp only [Int.toNat_natCast, List.length_replicate, List.length_cons, List.length_nil]
  refine key C _ _ (by omega) ?_ (by omega) (by omega) ?_
  · simp; omega
  · show List.take _ (List.take C [r] ++ _) = _
    by_cases h0 : C = 0
    · subst h0; rfl
    · have : min C (0 + 1) = 1 := by omega
      rw [this, List.take_of_length_le (show [r].length ≤ C by simp; omega)]
      rfl
end Go.Tk
