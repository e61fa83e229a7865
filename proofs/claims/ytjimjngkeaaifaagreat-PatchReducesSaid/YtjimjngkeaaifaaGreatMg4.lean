/- Merged: C4r. -/
import Derived.Test.YtjimjngkeaaifaaGreatMg3
import Derived.Shelf.SlicesE.Delete
/- Layer 4: slices.Delete of edits, by hand. -/
set_option linter.unusedSimpArgs false
set_option linter.unusedVariables false
set_option linter.unnecessarySimpa false
set_option maxRecDepth 10000
set_option maxHeartbeats 400000
namespace Go.Tk
open Go Go.RowKit
theorem row_cell {w : World} {b k : Nat} {cur : Array Value} {e : TypeId} (h : w.heap[b]? = some (.cells cur e (0, 0))) : w.cell? ⟨b, k, none⟩ = cur[k]? := by
  simp [World.cell?, h]
theorem row_warm {w : World} {b k : Nat} {cur : Array Value} {e : TypeId} (h : w.heap[b]? = some (.cells cur e (0, 0))) : w.frozen? ⟨b, k, none⟩ = false := by
  unfold World.frozen?
  rw [h]
  simp
theorem setCells_row (P : Program) {w : World} {b o : Nat} {cur : Array Value} {e : TypeId} {vs : List Value} (h : w.heap[b]? = some (.cells cur e (0, 0))) (hf : o + vs.length ≤ cur.size) (h1 : ∀ v ∈ vs, v.oneCell' = true) :
    w.setCells b o vs = w.setRow b (cur.toList.take o ++ vs ++ cur.toList.drop (o + vs.length)).toArray := by
  have e1 := run_storeCells_cells (P := P) b o vs 0 w (fun j hj => by rw [row_cell h]; rw [Array.getElem?_eq_getElem (by omega)]; rfl) (fun j hj => row_warm h) h1
  have e2 := run_storeCells_at P b o e vs 0 cur w h (by omega) h1
  simp only [Nat.add_zero] at e1 e2
  rw [e1] at e2
  injection e2
theorem ed_info : ∃ i0, Go.Proofs.Tryz.prog.info? 61 = some i0 ∧ i0.size = 5 := by
  obtain ⟨fi, i1, i2, _⟩ := tys_info ((tyB_ok Go.Proofs.Tryz.prog tEd).1 61 (by kernel_rfl))
  exact ⟨fi, i1, i2⟩
theorem ed_slice : Go.Proofs.Tryz.prog.underlying 23 = some (.slice 61) := by kernel_rfl
def zE (n : Nat) : List Value := (List.replicate n (zeroCs tEd)).flatten
theorem zE_len (n : Nat) : (zE n).length = n * 5 := by
  unfold zE
  induction n with
  | zero => rfl
  | succ n ih => rw [List.replicate_succ, List.flatten_cons, List.length_append, ih]; show 5 + n * 5 = _; omega
theorem zE_one (n : Nat) : ∀ v ∈ zE n, v.oneCell' = true := by
  intro v hv
  obtain ⟨l, hl1, hl2⟩ := List.mem_flatten.1 hv
  rw [List.eq_of_mem_replicate hl1] at hl2
  exact c_one (P := Go.Proofs.Tryz.prog) (w := default) (S := fun _ => True) tEd (zeroCs_c rfl) v hl2
theorem clr_run {w : World} {b o n c : Nat} {cur : Array Value} {e : TypeId} (h : w.heap[b]? = some (.cells cur e (0, 0))) (hf : o + n * 5 ≤ cur.size) (hn : 0 < n) (ty : TypeId) :
    (Builtin.clear_ #[23] ty #[.slice (some ⟨b, o, none⟩) n c]).run Go.Proofs.Tryz.prog w = .ok (.tuple #[]) (w.setCells b o (zE n)) := by
  have hzc : (Builtin.zeroCells (mkV tEd (zeroCs tEd)).cells n).toList = zE n := by
    unfold Builtin.zeroCells
    rw [zero_cells Go.Proofs.Tryz.prog w (t := tEd) rfl]
    have hzl : (zeroCs tEd).length = tEd.csize := rfl
    have := zero_row Go.Proofs.Tryz.prog w tEd rfl n
    have h0 : ¬ n * tEd.csize = 0 := by show ¬ n * 5 = 0; omega
    simp only [h0, if_false] at this
    rw [show zE n = (List.replicate n (zeroCs tEd)).flatten from rfl, ← this]
    simp [hzl]
  have hst := run_storeCells_cells (P := Go.Proofs.Tryz.prog) b o (zE n) 0 w (fun j hj => by rw [zE_len] at hj; rw [row_cell h]; rw [Array.getElem?_eq_getElem (by omega)]; rfl) (fun j hj => row_warm h) (zE_one n)
  simp only [Nat.add_zero] at hst
  have hu := run_underlying (P := Go.Proofs.Tryz.prog) ed_slice w
  have hzv := tys_zero (P := Go.Proofs.Tryz.prog) ((tyB_ok Go.Proofs.Tryz.prog tEd).1 61 (by kernel_rfl)) rfl w
  obtain ⟨m, rfl⟩ : ∃ m, n = m + 1 := ⟨n - 1, by omega⟩
  simp [Builtin.clear_, hu, hzv, hzc, hst]
theorem run_clr {P : Program} {ev : Operand → Value} {w w' : World} {o : Oper} {x : Operand} {tt : Array TypeId} {v v' : Value} (ho : o.op = .call ⟨.builtin .clear, #[x], tt⟩) (hx : ev x = v) (h : (Builtin.clear_ tt o.type #[v]).run P w = .ok v' w') : (execOp ev o).run P w = .ok (.value v') w' := by
  unfold execOp
  rw [ho]
  simp only [resolve, Sem.run_bind, Sem.run_pure, Result.andThen_ok, invoke, builtin]
  have h' : (Builtin.clear_ tt o.type (Array.map ev #[x])).run P w = .ok v' w' := by simpa [hx] using h
  rw [h']
  rfl
theorem del_call {w : World} {b off n cap i j : Nat} {cur : Array Value} {e : TypeId} (h : w.heap[b]? = some (.cells cur e (0, 0))) (hij : i < j) (hj : j ≤ n) (hn : n ≤ cap) (hc : cap ≤ 9223372036854775807) (hf : off + cap * 5 ≤ cur.size)
    (h1 : ∀ v ∈ (cur.toList.drop (off + j * 5)).take ((n - j) * 5), v.oneCell' = true) :
    Calls Go.Proofs.Tryz.prog 93 #[.slice (some ⟨b, off, none⟩) n cap, .int .i64 i, .int .i64 j] w fun en w' => en = .returned (.slice (some ⟨b, off, none⟩) (n - (j - i)) cap) ∧
      w' = (w.drew.setCells b (off + i * 5) ((cur.toList.drop (off + j * 5)).take ((n - j) * 5))).setCells b (off + (i + (n - j)) * 5) (zE (n - (i + (n - j)))) := by
  obtain ⟨news, hnews⟩ : ∃ news, news = (cur.toList.drop (off + j * 5)).take ((n - j) * 5) := ⟨_, rfl⟩
  rw [← hnews] at h1 ⊢
  have hlen : news.length = (n - j) * 5 := by rw [hnews, List.length_take, List.length_drop, Array.length_toList]; omega
  have hd : w.drew.heap[b]? = some (.cells cur e (0, 0)) := h
  obtain ⟨i0, hi0, hz5⟩ := ed_info
  obtain ⟨A, hA, hsrc⟩ : ∃ A : Addr, (if cap = j then some (⟨b, off, none⟩ : Addr) else some ⟨b, off + j * 5, none⟩) = some A ∧ (∀ t u, news[t]? = some u → w.drew.cell? (A.add t) = some u) := by
    by_cases hcj : cap = j
    · refine ⟨⟨b, off, none⟩, by simp [hcj], fun t u hu => ?_⟩
      have h0 : news.length = 0 := by rw [hlen]; omega
      rw [List.length_eq_zero_iff.1 h0] at hu
      simp at hu
    · refine ⟨⟨b, off + j * 5, none⟩, by simp [hcj], fun t u hu => ?_⟩
      rw [addr_add, row_cell hd, ← Array.getElem?_toList]
      rw [hnews, List.getElem?_take] at hu
      split at hu
      · rw [List.getElem?_drop] at hu; exact hu
      · cases hu
  have s3 : ∀ t, t < news.length → (w.drew.cell? ⟨b, off + i * 5 + t, none⟩).isSome = true ∧ w.drew.frozen? ⟨b, off + i * 5 + t, none⟩ = false := by
    intro t ht
    rw [hlen] at ht
    refine ⟨?_, row_warm hd⟩
    rw [row_cell hd, Array.getElem?_eq_getElem (by omega)]; rfl
  obtain ⟨W1, hW1⟩ : ∃ W1, W1 = w.drew.setCells b (off + i * 5) news := ⟨_, rfl⟩
  have hrow : W1 = w.drew.setRow b (cur.toList.take (off + i * 5) ++ news ++ cur.toList.drop (off + i * 5 + news.length)).toArray := by rw [hW1]; exact setCells_row Go.Proofs.Tryz.prog hd (by rw [hlen]; omega) h1
  have hr1 : W1.heap[b]? = some (.cells (cur.toList.take (off + i * 5) ++ news ++ cur.toList.drop (off + i * 5 + news.length)).toArray e (0, 0)) := by rw [hrow]; exact setRow_heap _ _ _ _ _ _ hd
  have hsz : (cur.toList.take (off + i * 5) ++ news ++ cur.toList.drop (off + i * 5 + news.length)).toArray.size = cur.size := by simp [hlen]; omega
  have hcl := fun ty => clr_run (c := cap - (i + (n - j))) hr1 (o := off + (i + (n - j)) * 5) (n := n - (i + (n - j))) (by rw [hsz]; omega) (by omega) ty
  rw [← hW1]
  have hic : i ≤ cap := by omega
  have hjc : j ≤ cap := by omega
  have hin : i ≤ n := by omega
  clear hrow hr1 hsz hnews hd
  refine calls_of_wp Go.Proofs.Tryz.func93 rfl ?_
  rw [Go.Proofs.Tryz.ntmps93]
  refine (wpIn_wide (n := 0)).1 ?_
  show Code.wpIn (Fw none) 0 _ _ _ _ _
  refine wpIn_seq (ql_region rfl ?_)
  simp [ql, go_sem, Exit.then]
  refine wpIn_seq (ql_region rfl ?_)
  simp [ql, go_sem, Exit.then, hin, hj, hn, Nat.le_of_lt hij]
  refine wpIn_seq (wpIn_seq (ql_region rfl ?_))
  simp [ql, go_sem, Exit.then]
  refine wpIn_cond_false (by simp [Act.eval]; omega) (wpIn_skip ?_)
  simp only [Exit.then]
  refine wpIn_seq (ql_region rfl ?_)
  simp [ql, go_sem, Exit.then]
  refine wpIn_seq ((wpIn_wide (n := 0)).2 ?_)
  have mixed := mix_ok
  go_region_law_o (refine step_append_room rfl (.tmp 22) (.tmp 25) 23 rfl 61 i0 5 ed_slice hi0 hz5 b off i cap (by simp [Act.eval, Act.put]) A (n - j) (cap - j) news (by simp [Act.eval, Act.put]) hlen hsrc h1 (by omega) s3 ?_)
  simp only [Exit.then, ← hW1]
  generalize hm : i + (n - j) = m at *
  have hm1 : m ≤ n := by omega
  have hne : ¬ cap = m := by omega
  refine wpIn_seq (ql_pre 5 (by decide) rfl ?_)
  simp [ql, go_sem, hm1, hn, hne]
  show wpOpsIn _ _ _ _ _ [5] _ _
  refine sp_val (v := .tuple #[]) (w1 := W1.setCells b (off + m * 5) (zE (n - m))) rfl rfl (run_clr rfl (by simp [Act.eval]) (hcl _)) ?_
  show Code.wpIn (Fw none) 0 _ _ _ _ _
  refine wpIn_seq (ql_region rfl ?_)
  simp [ql, go_sem, Exit.then]
  refine wpIn_ret ?_
  refine ⟨rfl, .slice (some ⟨b, off, none⟩) m cap, ?_, ?_, rfl⟩
  · simp [results, Go.Proofs.Tryz.results93, go_sem]
  · rw [show n - (j - i) = m by omega]
theorem repL_ones {α : Type} {R : α → List Value → Prop} (h : ∀ x cs, R x cs → ∀ v ∈ cs, v.oneCell' = true) : ∀ xs cs, repL R xs cs → ∀ v ∈ cs, v.oneCell' = true
  | [], cs, e, v, hv => by simp [repL] at e; rw [e] at hv; cases hv
  | x :: xs, _, ⟨c1, c2, rfl, h1, h2⟩, v, hv => (List.mem_append.1 hv).elim (h x c1 h1 v) (repL_ones h xs c2 h2 v)
theorem cut_cells {cur news rest rest2 : List Value} {off n : Nat} (h : off + n ≤ cur.length) : (((cur.take (off + n) ++ news ++ rest).take (off + n + news.length) ++ rest2).drop off).take (n + news.length) = (cur.drop off).take n ++ news := by
  have l1 : (cur.take (off + n)).length = off + n := by rw [List.length_take]; omega
  have l2 : (cur.take off).length = off := by rw [List.length_take]; omega
  have l3 : ((cur.drop off).take n ++ news).length = n + news.length := by rw [List.length_append, List.length_take, List.length_drop]; omega
  rw [List.take_left' (by rw [List.length_append, l1]), show cur.take (off + n) = cur.take off ++ (cur.drop off).take n from List.take_add, List.append_assoc, List.append_assoc, List.drop_left' l2, ← List.append_assoc, List.take_left' l3]
abbrev cDelEd : InC := { a := tEd, B := (.cons .int (.cons .int .nil)), pre := fun xs x => 0 ≤ x.1 ∧ x.1 < x.2.1 ∧ x.2.1 ≤ xs.length, F := fun xs x => xs.take x.1.toNat ++ xs.drop x.2.1.toNat, ret := true }
theorem cDelEd_ok : FunOK Go.Proofs.Tryz.prog 93 ∧ InF Go.Proofs.Tryz.prog 93 cDelEd := by
  refine ⟨funB_ok (by kernel_rfl), ?_⟩
  rintro w S xs ⟨i, j, ⟨⟩⟩ v ob vs hown hnS hv hp
  change List Edt at xs
  change Int at i
  change Int at j
  obtain ⟨p1, p2, p3⟩ : 0 ≤ i ∧ i < j ∧ j ≤ xs.length := hp
  obtain ⟨v1, vs1, b1, b2, rfl, _, h1, h2⟩ := hv
  obtain ⟨v2, vs2, b3, b4, rfl, _, h3, h4⟩ := h2
  obtain ⟨rfl, _⟩ : vs2 = [] ∧ _ := h4
  obtain ⟨_, c1, rfl, q1, _⟩ := h1
  obtain ⟨_, c2, rfl, q2, _⟩ := h3
  change c1 = [.int .i64 i] at q1
  change c2 = [.int .i64 j] at q2
  subst q1
  subst q2
  obtain ⟨a, rfl⟩ : ∃ a : Nat, i = a := ⟨i.toNat, by omega⟩
  obtain ⟨c, rfl⟩ : ∃ c : Nat, j = c := ⟨j.toNat, by omega⟩
  rcases hown with ⟨rfl, rfl, rfl⟩ | ⟨b, off, cap, cur, e, rfl, rfl, _, h4, h5, h6, h7, h8⟩
  · simp at p3; omega
  · have h7 : off + cap * 5 ≤ cur.size := h7
    have h8 : repL ((reps Go.Proofs.Tryz.prog tEd).c w S) xs ((cur.toList.drop off).take (xs.length * 5)) := h8
    have hac : a < c := by omega
    have hcn : c ≤ xs.length := by omega
    have hln : ∀ (x : Edt) cs, (reps Go.Proofs.Tryz.prog tEd).c w S x cs → cs.length = 5 := fun x cs h => by rw [(ed_cs h).1]; rfl
    have hmove : ∀ (W : World) (S' : Nat → Prop) (x : Edt) cs, (reps Go.Proofs.Tryz.prog tEd).c w S x cs → (reps Go.Proofs.Tryz.prog tEd).c W S' x cs := fun W S' x cs h => by
      obtain ⟨rfl, h0, h1⟩ := ed_cs h
      exact ⟨[_], _, rfl, ⟨rfl, h0⟩, _, [], (List.append_nil _).symm, ln_rep h1, rfl⟩
    have k1 := h8
    rw [(List.take_append_drop c xs).symm] at k1
    have k2 := (repL_split hln _ _ _ k1).2
    have k3 := h8
    rw [(List.take_append_drop a xs).symm] at k3
    have k4 := (repL_split hln _ _ _ k3).1
    rw [List.take_append_drop, List.length_take, Nat.min_eq_left hcn, List.drop_take, List.drop_drop, show xs.length * 5 - c * 5 = (xs.length - c) * 5 by omega] at k2
    rw [List.take_append_drop, List.length_take, Nat.min_eq_left (by omega), List.take_take, Nat.min_eq_left (by omega)] at k4
    obtain ⟨news, hnews⟩ : ∃ news, news = (cur.toList.drop (off + c * 5)).take ((xs.length - c) * 5) := ⟨_, rfl⟩
    have hone := repL_ones (fun x cs h => c_one tEd h) _ _ k2
    have hcs : cur.toList.length = cur.size := Array.length_toList
    have hlen : news.length = (xs.length - c) * 5 := by rw [hnews, List.length_take, List.length_drop, hcs]; omega
    refine (del_call h4 hac hcn h5 h6.2 h7 hone).mono ?_
    rw [← hnews] at k2 hone ⊢
    rintro en w' ⟨rfl, hw'⟩
    have hd : w.drew.heap[b]? = some (.cells cur e (0, 0)) := h4
    obtain ⟨cu1, hcu1⟩ : ∃ cu1, cu1 = (cur.toList.take (off + a * 5) ++ news ++ cur.toList.drop (off + a * 5 + news.length)).toArray := ⟨_, rfl⟩
    have hsz : cu1.size = cur.size := by rw [hcu1]; simp [hlen]; omega
    rw [setCells_row Go.Proofs.Tryz.prog hd (by rw [hlen]; omega) hone, ← hcu1] at hw'
    have hr1 : (w.drew.setRow b cu1).heap[b]? = some (.cells cu1 e (0, 0)) := setRow_heap _ _ _ _ _ _ hd
    rw [setCells_row Go.Proofs.Tryz.prog hr1 (by rw [zE_len, hsz]; omega) (zE_one _), setRow_setRow] at hw'
    obtain ⟨cu2, hcu2⟩ : ∃ cu2, cu2 = (cu1.toList.take (off + (a + (xs.length - c)) * 5) ++ zE (xs.length - (a + (xs.length - c))) ++ cu1.toList.drop (off + (a + (xs.length - c)) * 5 + (zE (xs.length - (a + (xs.length - c)))).length)).toArray := ⟨_, rfl⟩
    rw [← hcu2] at hw'
    subst hw'
    have hsz2 : cu2.size = cur.size := by rw [hcu2]; simp [zE_len, hsz]; omega
    have hr2 : (w.drew.setRow b cu2).heap[b]? = some (.cells cu2 e (0, 0)) := setRow_heap _ _ _ _ _ _ hd
    have hl2 : (xs.take a ++ xs.drop c).length = a + (xs.length - c) := by simp only [List.length_append, List.length_take, List.length_drop]; omega
    have hcells : (cu2.toList.drop off).take ((xs.take a ++ xs.drop c).length * 5) = (cur.toList.drop off).take (a * 5) ++ news := by
      have e1 : off + (a + (xs.length - c)) * 5 = off + a * 5 + news.length := by rw [hlen]; omega
      have e2 : (a + (xs.length - c)) * 5 = a * 5 + news.length := by rw [hlen]; omega
      rw [hl2, hcu2, List.toList_toArray, e1, e2, hcu1, List.toList_toArray, List.append_assoc (List.take _ _) (zE _)]
      exact cut_cells (by rw [hcs]; omega)
    refine ⟨.slice (some ⟨b, off, none⟩) (xs.length - (c - a)) cap, some (b, off), rfl, .inr ⟨b, off, cap, cu2, e, rfl, ?_, trivial, hr2, ?_, ?_, ?_, ?_⟩, fun b' o e => .inr ⟨o, e⟩, ?_⟩
    · show _ = Value.slice _ (xs.take a ++ xs.drop c).length cap
      rw [hl2, show xs.length - (c - a) = a + (xs.length - c) by omega]
    · show (xs.take a ++ xs.drop c).length ≤ cap
      rw [hl2]; omega
    · have h61 := h6.1
      exact ⟨show (xs.take a ++ xs.drop c).length ≤ 140737488355328 by rw [hl2]; omega, h6.2⟩
    · show off + cap * 5 ≤ cu2.size
      rw [hsz2]; exact h7
    · show repL _ (xs.take a ++ xs.drop c) ((cu2.toList.drop off).take ((xs.take a ++ xs.drop c).length * 5))
      rw [hcells]
      exact repL_append _ _ _ _ (repL_mono (hmove _ _) _ _ k4) (repL_mono (hmove _ _) _ _ k2)
    · refine ⟨rfl, rfl, rfl, by rw [setRow_size]; exact Nat.le_refl _, fun i hi hne => ?_⟩
      rw [setRow_other _ _ _ _ (fun h => hne off (by rw [h]))]
      rfl
def backE (x : List Edt) : Nat → List (Int × Edt × Unit)
  | 0 => []
  | n + 1 => ((n : Int), x.getD n tEd.dflt, ()) :: backE x n
theorem backE_len (h : List Edt) : ∀ n, (backE h n).length = n
  | 0 => rfl
  | n + 1 => by unfold backE; rw [List.length_cons, backE_len h n]
theorem backE_get (h : List Edt) : ∀ n k, k < n → (backE h n)[k]? = some (((n - 1 - k : Nat) : Int), h.getD (n - 1 - k) tEd.dflt, ())
  | 0, k, hk => by omega
  | n + 1, 0, hk => by unfold backE; simp
  | n + 1, k + 1, hk => by
    unfold backE
    rw [List.getElem?_cons_succ, backE_get h n k (by omega), show n + 1 - 1 - (k + 1) = n - 1 - k by omega]
abbrev cBackE1 : Con := { A := (.cons (.ref (.sl tEd)) .nil), R := .seq false (.cons .int (.cons tEd .nil)), pre := fun _ => True, F := fun x => ((True, backE x.1 (x.1).length) : Prop × List (Int × Edt × Unit)) }
def cBackE1_0 (Λ1 : Int → Nat → Prop) (c0 : (List Edt)) (y0 : List (Int × Edt × Unit)) : Prop :=
  inI ((List.length c0 : Int) - (1 : Int)) ∧ Λ1 ((List.length c0 : Int) - (1 : Int)) 0
def cBackE1_1 (Λ1 : Int → Nat → Prop) (c0 : (List Edt)) (y0 : List (Int × Edt × Unit))  (i_1 : Int) (k_1 : Nat) : Prop :=
  if (decide (i_1 ≥ (0 : Int))) = true then (idx i_1 (List.length c0 : Int) ∧ (y0[k_1]? = some (i_1, (List.getD c0 (Int.toNat i_1) tEd.dflt), ()) ∧ (inI (i_1 - (1 : Int)) ∧ Λ1 (i_1 - (1 : Int)) (k_1 + 1)) ∧ True)) else k_1 = List.length y0
theorem cBackE1_law (h : ∀ (c0 : (List Edt)), cBackE1.A.wf (c0, ()) → ((True, backE c0 (c0).length)).1 → ∀ (Λ1 : Int → Nat → Prop), (∀ (i_1 : Int) (k_1 : Nat), cBackE1_1 Λ1 c0 ((True, backE c0 (c0).length)).2 i_1 k_1 → Λ1 i_1 k_1) → cBackE1_0 Λ1 c0 ((True, backE c0 (c0).length)).2) : ConOK Go.Proofs.Tryz.prog 119 cBackE1 := by
  refine lawIt (X := { subs := [], frz := [], U := [], mul := [], nst := [], nls := [], itf := some false, inp := [], arrs := [] }) (hX := xok0 _ trivial) (Γ := []) (Θ := Th) (n := 19) [([1, 0], ⟨[(0, true), (1, false), (3, true)], [(5000000, true)]⟩)] trivial (by kernel_rfl) th_ok mix_ok Go.Proofs.Tryz.func119 (by kernel_rfl) ?_
  intro x hw hp Λ hC
  have h0 := h x.1 hw hp (fun i_1 k_1 => Λ [1, 0] ([(0, .yld), (1, .d false (.ref (.sl tEd)) x.1), (3, .d true .int i_1)], [(5000000, .it (.cons .int (.cons tEd .nil)) (cBackE1.F x).2 k_1)])) (fun i_1 k_1 hb => hC [1, 0] ([(0, .yld), (1, .d false (.ref (.sl tEd)) x.1), (3, .d true .int i_1)], [(5000000, .it (.cons .int (.cons tEd .nil)) (cBackE1.F x).2 k_1)]) (Eq.mpr (by kernel_rfl) hb))
  exact Eq.mpr (by kernel_rfl) h0
theorem cBackE1_ok : ConOK Go.Proofs.Tryz.prog 119 cBackE1 := by
  refine cBackE1_law ?_
  intro c0 hw hp Λ1 h1
  unfold cBackE1_0
  have hlc : c0.length ≤ 140737488355328 := hw.1.1
  refine ⟨by unfold inI; omega, ?_⟩
  have key := upto (n := c0.length) (Q := fun k => Λ1 ((c0.length : Int) - 1 - k) k) ?_ ?_ 0 (Nat.zero_le _)
  · simpa using key
  · apply h1; unfold cBackE1_1
    rw [if_neg (by rw [decide_eq_true_eq]; omega), backE_len]
  · intro k hk ih
    apply h1; unfold cBackE1_1
    rw [if_pos (by rw [decide_eq_true_eq]; omega), backE_get c0 _ k hk]
    have e : ((c0.length : Int) - 1 - k).toNat = c0.length - 1 - k := by omega
    rw [e]
    refine ⟨⟨by omega, by omega⟩, ?_, ⟨by unfold inI; omega, ?_⟩, trivial⟩
    · congr 2; omega
    · rw [show ((c0.length : Int) - 1 - k - 1) = (c0.length : Int) - 1 - ((k + 1 : Nat) : Int) by omega]; exact ih
abbrev cBackE : Con := { A := (.cons (.sl tEd) .nil), R := (.cons (.seq false (.cons .int (.cons tEd .nil))) .nil), pre := fun x => True, F := fun x => ((True, backE x.1 (x.1).length), ()), al := true }
def cBackE_0  (s : (List Edt)) (y0 : (Prop × List (Int × Edt × Unit))) : Prop :=
  ((True, backE s (s).length)) = y0 ∧ True
theorem cBackE_law (h : ∀ (s : (List Edt)), cBackE.A.wf (s, ()) → cBackE_0  s (True, backE s (s).length)) : ConOK Go.Proofs.Tryz.prog 92 cBackE := by
  refine lawX (X := { subs := [], frz := [1], U := [], mul := [], nst := [], nls := [], itf := none, inp := [], arrs := [] }) (hX := xok0 _ trivial) (Γ := [(119, cBackE1)]) (Θ := Th) (n := 4) [] ⟨cBackE1_ok, trivial⟩ (by kernel_rfl) th_ok mix_ok Go.Proofs.Tryz.func92 (by kernel_rfl) ?_
  intro x hw hp Λ hC
  have h0 := h x.1 hw  
  exact Eq.mpr (by kernel_rfl) h0
theorem cBackE_ok : ConOK Go.Proofs.Tryz.prog 92 cBackE := by
  refine cBackE_law ?_
  intro s hw
  unfold cBackE_0
  exact ⟨rfl, trivial⟩
theorem erase_eq (o : List Edt) (i : Nat) : o.take i ++ o.drop (i + 1) = o.eraseIdx i := (List.eraseIdx_eq_take_drop_succ o i).symm
theorem redTo_succ (p : List Lin) (l : List Tst) (i : Nat) (o : List Edt) : redTo p l (i + 1) o = redTo p l i (if goodX p (o.eraseIdx i) l = true then o.eraseIdx i else o) := rfl
abbrev cReduce : Con := { A := (.cons (.sl tL) (.cons (.sl tEd) (.cons (.sl tTs) .nil))), R := (.cons (.sl tEd) (.cons .int .nil)), pre := fun x => True, F := fun x => ((if redN x.1 x.2.1 x.2.2.1 = 0 then redX x.1 x.2.1 x.2.2.1 else []), redN x.1 x.2.1 x.2.2.1, ()), al := true }
def cReduce_0 (Λ1 : (List Edt) → Nat → Prop) (p : (List Lin)) (x : (List Edt)) (l : (List Tst)) (y0 : (List Edt)) (y1 : Int) : Prop :=
  True ∧ (if ((errXT p x l) != (0 : Int)) = true then (([] : List Edt) = y0 ∧ (errXT p x l) = y1 ∧ True) else (errXT p x l = 0 ∧ (if (!(goodX p x l)) = true then (([] : List Edt) = y0 ∧ (6 : Int) = y1 ∧ True) else (x.length ≤ 1000000 ∧ (True ∧ (((True, backE x (x).length)).1 ∧ Λ1 x 0))))))
def cReduce_1 (Λ1 : (List Edt) → Nat → Prop) (p : (List Lin)) (x : (List Edt)) (l : (List Tst)) (y0 : (List Edt)) (y1 : Int)  (out_1 : (List Edt)) (k_1 : Nat) : Prop :=
  (∀ e1 : (Int × Edt × Unit), (((True, backE x (x).length)).2)[k_1]? = some e1 → (out_1.length ≤ 1000000 ∧ (inI (e1.1 + (1 : Int)) ∧ ((0 ≤ e1.1 ∧ e1.1 < (e1.1 + (1 : Int)) ∧ (e1.1 + (1 : Int)) ≤ out_1.length) ∧ (errXT p (out_1.take e1.1.toNat ++ out_1.drop (e1.1 + (1 : Int)).toNat) l = 0 ∧ (if (goodX p (out_1.take e1.1.toNat ++ out_1.drop (e1.1 + (1 : Int)).toNat) l) = true then Λ1 (out_1.take e1.1.toNat ++ out_1.drop (e1.1 + (1 : Int)).toNat) (k_1 + 1) else Λ1 out_1 (k_1 + 1))))))) ∧ (List.length (((True, backE x (x).length)).2) ≤ k_1 → (out_1 = y0 ∧ (0 : Int) = y1 ∧ True))
theorem cReduce_law (h : ∀ (p : (List Lin)) (x : (List Edt)) (l : (List Tst)), cReduce.A.wf (p, x, l, ()) → ∀ (Λ1 : (List Edt) → Nat → Prop), (∀ (out_1 : (List Edt)) (k_1 : Nat), cReduce_1 Λ1 p x l (if redN p x l = 0 then redX p x l else []) (redN p x l) out_1 k_1 → Λ1 out_1 k_1) → cReduce_0 Λ1 p x l (if redN p x l = 0 then redX p x l else []) (redN p x l)) : ConOK Go.Proofs.Tryz.prog 54 cReduce := by
  refine lawX (X := { subs := [], frz := [], U := [], mul := [], nst := [], nls := [], itf := none, inp := [(93, cDelEd)], arrs := [] }) (hX := xok0 _ ⟨cDelEd_ok, trivial⟩) (Γ := [(92, cBackE), (57, cChk), (63, cCloneE), (91, cIsGood0)]) (Θ := Th) (n := 42) [([1, 1, 1, 1, 0, 1, 0], ⟨[(3, true), (5, true), (6, true), (7, true), (9, true)], [(3, false), (5, false), (6, true), (9, true), (4000000, true)]⟩)] ⟨cBackE_ok, cChk_ok, cCloneE_ok, cIsGood0_ok, trivial⟩ (by kernel_rfl) th_ok mix_ok Go.Proofs.Tryz.func54 (by kernel_rfl) ?_
  intro x hw hp Λ hC
  have h0 := h x.1 x.2.1 x.2.2.1 hw (fun out_1 k_1 => Λ [1, 1, 1, 1, 0, 1, 0] ([(3, .ptr 3 0 []), (5, .ptr 5 0 []), (6, .own 6 0), (7, .d true .int 0), (9, .ptr 9 0 [])], [(3, .box false (.sl tL) x.1), (5, .box false (.sl tTs) x.2.2.1), (6, .sl true tEd ([] : List Edt)), (9, .box true (.sl tEd) out_1), (4000000, .rg false (.cons .int (.cons tEd .nil)) (((True, backE x.2.1 (x.2.1).length)).2) k_1)])) (fun out_1 k_1 hb => hC [1, 1, 1, 1, 0, 1, 0] ([(3, .ptr 3 0 []), (5, .ptr 5 0 []), (6, .own 6 0), (7, .d true .int 0), (9, .ptr 9 0 [])], [(3, .box false (.sl tL) x.1), (5, .box false (.sl tTs) x.2.2.1), (6, .sl true tEd ([] : List Edt)), (9, .box true (.sl tEd) out_1), (4000000, .rg false (.cons .int (.cons tEd .nil)) (((True, backE x.2.1 (x.2.1).length)).2) k_1)]) (Eq.mpr (by kernel_rfl) hb))
  exact Eq.mpr (by kernel_rfl) h0
theorem cReduce_ok : ConOK Go.Proofs.Tryz.prog 54 cReduce := by
  refine cReduce_law ?_
  intro p x l hw Λ1 h1
  unfold cReduce_0
  refine ⟨trivial, ?_⟩
  by_cases h : errXT p x l = 0
  · have h4 := (validX_ok (errXT_ok h).2.1).1
    rw [if_neg (by simp [h])]
    refine ⟨h, ?_⟩
    cases g : goodX p x l
    · have hN : redN p x l = 6 := by unfold redN; rw [if_pos h, g]; rfl
      rw [if_pos (by rfl), hN]
      exact ⟨rfl, rfl, trivial⟩
    · have hN : redN p x l = 0 := by unfold redN; rw [if_pos h, g]; rfl
      rw [if_neg (by simp)]
      refine ⟨by omega, trivial, trivial, ?_⟩
      have key : ∀ j k o, j + k = x.length → o.Sublist x → j ≤ o.length → redTo p l j o = redX p x l → Λ1 o k := by
        intro j
        induction j with
        | zero =>
          intro k o hk ho _ hr
          apply h1; unfold cReduce_1
          refine ⟨fun e1 he => ?_, fun _ => ?_⟩
          · have := (List.getElem?_eq_some_iff.1 he).1
            rw [backE_len] at this; omega
          · have hr : o = redX p x l := hr
            rw [hN, if_pos rfl]; exact ⟨hr, rfl, trivial⟩
        | succ j ih =>
          intro k o hk ho hj hr
          have hol := ho.length_le
          rw [redTo_succ] at hr
          apply h1; unfold cReduce_1
          refine ⟨fun e1 he => ?_, fun hle => ?_⟩
          · rw [backE_get x _ k (by omega)] at he
            cases he
            have e : (((x.length - 1 - k : Nat) : Int) + 1).toNat = j + 1 := by omega
            have e2 : (((x.length - 1 - k : Nat) : Int)).toNat = j := by omega
            show _ ∧ _ ∧ _ ∧ errXT p (o.take (((x.length - 1 - k : Nat) : Int)).toNat ++ o.drop (((x.length - 1 - k : Nat) : Int) + 1).toNat) l = 0 ∧ (if goodX p (o.take (((x.length - 1 - k : Nat) : Int)).toNat ++ o.drop (((x.length - 1 - k : Nat) : Int) + 1).toNat) l = true then Λ1 (o.take (((x.length - 1 - k : Nat) : Int)).toNat ++ o.drop (((x.length - 1 - k : Nat) : Int) + 1).toNat) (k + 1) else _)
            rw [e, e2, erase_eq]
            have hs : (o.eraseIdx j).Sublist x := (List.eraseIdx_sublist ..).trans ho
            refine ⟨by omega, by unfold inI; omega, ⟨by omega, by omega, by omega⟩, errXT_sub h hs, ?_⟩
            cases gd : goodX p (o.eraseIdx j) l
            · rw [gd, if_neg (by simp)] at hr
              rw [if_neg (by simp)]
              exact ih (k + 1) o (by omega) ho (by omega) hr
            · rw [gd, if_pos rfl] at hr
              rw [if_pos rfl]
              refine ih (k + 1) _ (by omega) hs ?_ hr
              rw [List.length_eraseIdx, if_pos (by omega)]; omega
          · rw [backE_len] at hle; omega
      exact key x.length 0 x (by omega) (List.Sublist.refl _) (Nat.le_refl _) rfl
  · have hN : redN p x l = errXT p x l := by unfold redN; rw [if_neg h]
    rw [if_pos (by simpa using h), hN, if_neg h]
    exact ⟨rfl, rfl, trivial⟩
abbrev cReduceR : Con := { A := (.cons (.sl tL) (.cons (.sl tEd) (.cons (.sl tTs) .nil))), R := (.cons (.sl tEd) (.cons .int .nil)), pre := fun x => True, F := fun x => ((if redN x.1 x.2.1 x.2.2.1 = 0 then redX x.1 x.2.1 x.2.2.1 else []), redN x.1 x.2.1 x.2.2.1, ()), al := true }
def cReduceR_0 (Λ1 : (List Edt) → Int → Prop) (p : (List Lin)) (x : (List Edt)) (l : (List Tst)) (y0 : (List Edt)) (y1 : Int) : Prop :=
  True ∧ (if ((errXT p x l) != (0 : Int)) = true then (([] : List Edt) = y0 ∧ (errXT p x l) = y1 ∧ True) else (errXT p x l = 0 ∧ (if (!(goodX p x l)) = true then (([] : List Edt) = y0 ∧ (6 : Int) = y1 ∧ True) else (List.length ([] : List Edt) + List.length x ≤ 4294967296 ∧ (inI ((List.length x : Int) - (1 : Int)) ∧ Λ1 (([] : List Edt) ++ x) ((List.length x : Int) - (1 : Int)))))))
def cReduceR_1 (Λ1 : (List Edt) → Int → Prop) (p : (List Lin)) (x : (List Edt)) (l : (List Tst)) (y0 : (List Edt)) (y1 : Int)  (out_1 : (List Edt)) (i_1 : Int) : Prop :=
  if (decide (i_1 ≥ (0 : Int))) = true then ((0 ≤ (0 : Int) ∧ (0 : Int) ≤ i_1 ∧ i_1 ≤ (List.length out_1 : Int) ∧ (List.length out_1 : Int) ≤ (List.length out_1 : Int)) ∧ (List.length ([] : List Edt) + List.length (List.drop (Int.toNat (0 : Int)) (List.take (Int.toNat i_1) out_1)) ≤ 4294967296 ∧ (inI (i_1 + (1 : Int)) ∧ ((0 ≤ (i_1 + (1 : Int)) ∧ (i_1 + (1 : Int)) ≤ (List.length out_1 : Int) ∧ (List.length out_1 : Int) ≤ (List.length out_1 : Int) ∧ (List.length out_1 : Int) ≤ (List.length out_1 : Int)) ∧ (List.length (([] : List Edt) ++ (List.drop (Int.toNat (0 : Int)) (List.take (Int.toNat i_1) out_1))) + List.length (List.drop (Int.toNat (i_1 + (1 : Int))) (List.take (Int.toNat (List.length out_1 : Int)) out_1)) ≤ 4294967296 ∧ (errXT p ((([] : List Edt) ++ (List.drop (Int.toNat (0 : Int)) (List.take (Int.toNat i_1) out_1))) ++ (List.drop (Int.toNat (i_1 + (1 : Int))) (List.take (Int.toNat (List.length out_1 : Int)) out_1))) l = 0 ∧ (if (goodX p ((([] : List Edt) ++ (List.drop (Int.toNat (0 : Int)) (List.take (Int.toNat i_1) out_1))) ++ (List.drop (Int.toNat (i_1 + (1 : Int))) (List.take (Int.toNat (List.length out_1 : Int)) out_1))) l) = true then (inI (i_1 - (1 : Int)) ∧ Λ1 ((([] : List Edt) ++ (List.drop (Int.toNat (0 : Int)) (List.take (Int.toNat i_1) out_1))) ++ (List.drop (Int.toNat (i_1 + (1 : Int))) (List.take (Int.toNat (List.length out_1 : Int)) out_1))) (i_1 - (1 : Int))) else (inI (i_1 - (1 : Int)) ∧ Λ1 out_1 (i_1 - (1 : Int)))))))))) else (out_1 = y0 ∧ (0 : Int) = y1 ∧ True)
theorem cReduceR_law (h : ∀ (p : (List Lin)) (x : (List Edt)) (l : (List Tst)), cReduceR.A.wf (p, x, l, ()) → ∀ (Λ1 : (List Edt) → Int → Prop), (∀ (out_1 : (List Edt)) (i_1 : Int), cReduceR_1 Λ1 p x l (if redN p x l = 0 then redX p x l else []) (redN p x l) out_1 i_1 → Λ1 out_1 i_1) → cReduceR_0 Λ1 p x l (if redN p x l = 0 then redX p x l else []) (redN p x l)) : ConOK Go.Proofs.Tryz.prog 55 cReduceR := by
  refine lawL (Γ := [(67, cGoodR), (65, cTestedR4)]) (Θ := Th) (n := 50) [([1, 1, 1, 1, 1, 0, 1, 0], ⟨[(0, false), (2, false), (9, true), (10, true)], []⟩)] ⟨cGoodR_ok, cTestedR4_ok, trivial⟩ (by kernel_rfl) th_ok mix_ok Go.Proofs.Tryz.func55 (by kernel_rfl) ?_
  intro x hw hp Λ hC
  have h0 := h x.1 x.2.1 x.2.2.1 hw (fun out_1 i_1 => Λ [1, 1, 1, 1, 1, 0, 1, 0] ([(0, .d false (.sl tL) x.1), (2, .d false (.sl tTs) x.2.2.1), (9, .d true (.sl tEd) out_1), (10, .d true .int i_1)], [])) (fun out_1 i_1 hb => hC [1, 1, 1, 1, 1, 0, 1, 0] ([(0, .d false (.sl tL) x.1), (2, .d false (.sl tTs) x.2.2.1), (9, .d true (.sl tEd) out_1), (10, .d true .int i_1)], []) (Eq.mpr (by kernel_rfl) hb))
  exact Eq.mpr (by kernel_rfl) h0
theorem cReduceR_ok : ConOK Go.Proofs.Tryz.prog 55 cReduceR := by
  refine cReduceR_law ?_
  intro p x l hw Λ1 h1
  unfold cReduceR_0
  refine ⟨trivial, ?_⟩
  by_cases h : errXT p x l = 0
  · have h4 := (validX_ok (errXT_ok h).2.1).1
    rw [if_neg (by simp [h])]
    refine ⟨h, ?_⟩
    cases g : goodX p x l
    · have hN : redN p x l = 6 := by unfold redN; rw [if_pos h, g]; rfl
      rw [if_pos (by rfl), hN]
      exact ⟨rfl, rfl, trivial⟩
    · have hN : redN p x l = 0 := by unfold redN; rw [if_pos h, g]; rfl
      rw [if_neg (by simp), List.nil_append]
      refine ⟨by simp only [List.length_nil]; omega, by unfold inI; omega, ?_⟩
      have key : ∀ j o, j ≤ x.length → o.Sublist x → j ≤ o.length → redTo p l j o = redX p x l → Λ1 o ((j : Int) - 1) := by
        intro j
        induction j with
        | zero =>
          intro o _ ho _ hr
          apply h1; unfold cReduceR_1
          have hr : o = redX p x l := hr
          rw [if_neg (by simp), hN, if_pos rfl]; exact ⟨hr, rfl, trivial⟩
        | succ j ih =>
          intro o hjx ho hj hr
          have hol := ho.length_le
          rw [redTo_succ] at hr
          have ih := fun o a b c => ih o (by omega) a (b : j ≤ o.length) (c : redTo p l j o = redX p x l)
          apply h1; unfold cReduceR_1
          have e0 : (((j + 1 : Nat) : Int) - 1) = (j : Int) := by omega
          have e1 : ((j : Int) + 1).toNat = j + 1 := by omega
          rw [e0, if_pos (by rw [decide_eq_true_eq]; omega), e1]
          simp only [Int.toNat_natCast, Int.toNat_zero, List.drop_zero, List.nil_append, List.take_length, erase_eq]
          have hs : (o.eraseIdx j).Sublist x := (List.eraseIdx_sublist ..).trans ho
          refine ⟨⟨by omega, by omega, by omega, by omega⟩, by simp; omega, by unfold inI; omega, ⟨by omega, by omega, by omega, by omega⟩, by simp; omega, errXT_sub h hs, ?_⟩
          cases gd : goodX p (o.eraseIdx j) l
          · rw [gd, if_neg (by simp)] at hr
            rw [if_neg (by simp)]
            exact ⟨by unfold inI; omega, ih o ho (by omega) hr⟩
          · rw [gd, if_pos rfl] at hr
            rw [if_pos rfl]
            refine ⟨by unfold inI; omega, ih _ hs ?_ hr⟩
            rw [List.length_eraseIdx, if_pos (by omega)]; omega
      exact key x.length x (Nat.le_refl _) (List.Sublist.refl _) (Nat.le_refl _) rfl
  · have hN : redN p x l = errXT p x l := by unfold redN; rw [if_neg h]
    rw [if_pos (by simpa using h), hN, if_neg h]
    exact ⟨rfl, rfl, trivial⟩
abbrev cPatchReduces : Con := { A := (.cons (.sl tL) (.cons (.sl tEd) (.cons (.sl tTs) .nil))), R := (.cons .bool .nil), pre := fun x => True, F := fun x => (true, ()) }
def cPatchReduces_0  (p : (List Lin)) (x : (List Edt)) (l : (List Tst)) (y0 : Bool) : Prop :=
  True ∧ (if (decide (p.length > 100) || decide (x.length > 100)) = true then (true = true ∧ (True ∧ (true = y0 ∧ True))) else (True ∧ (True ∧ (if (bif false then true else (decide (l.length > 50) || l.any (fun t' => decide (50 < t'.1.length)))) = true then (True ∧ (true = y0 ∧ True)) else (True ∧ (True ∧ (((if redN p x l = 0 then redX p x l else [])).length ≤ 1000000 ∧ (if (!(decide (((if redN p x l = 0 then redX p x l else [])) = ((if redN p x l = 0 then redX p x l else []))))) = true then (true = true ∧ (false = y0 ∧ True)) else (True ∧ (if (bif false then true else ((redN p x l) != (redN p x l))) = true then (false = y0 ∧ True) else (if ((redN p x l) != (0 : Int)) = true then (True ∧ (true = y0 ∧ True)) else (True ∧ (True ∧ (if ((errXT p ((if redN p x l = 0 then redX p x l else [])) l) == (0 : Int)) = true then (True ∧ (if (bif true then ((errXT p ((if redN p x l = 0 then redX p x l else [])) l == 0 && goodX p ((if redN p x l = 0 then redX p x l else [])) l)) else false) = true then (True ∧ (if (bif true then ((errXT p x l) == (0 : Int)) else false) = true then (True ∧ (if (bif true then ((errXT p x l == 0 && smallB p x l)) else false) = true then (True ∧ (if (bif true then (decide ((List.length ((if errXT p x l = 0 then smallX p x l else [])) : Int) ≤ (List.length ((if redN p x l = 0 then redX p x l else [])) : Int))) else false) = true then (True ∧ (True ∧ ((bif true then true else false) = y0 ∧ True))) else (false = false ∧ (false = y0 ∧ True)))) else (false = false ∧ (false = false ∧ (false = y0 ∧ True))))) else (false = false ∧ (false = false ∧ (false = false ∧ (false = y0 ∧ True)))))) else (false = false ∧ (false = false ∧ (false = false ∧ (false = false ∧ (false = y0 ∧ True))))))) else (false = false ∧ (false = false ∧ (false = false ∧ (false = false ∧ (false = false ∧ (false = y0 ∧ True))))))))))))))))))))
theorem cPatchReduces_law (h : ∀ (p : (List Lin)) (x : (List Edt)) (l : (List Tst)), cPatchReduces.A.wf (p, x, l, ()) → cPatchReduces_0  p x l true) : ConOK Go.Proofs.Tryz.prog 14 cPatchReduces := by
  refine lawL (Γ := [(51, cIsGood), (15, cLong4), (25, cMany4), (54, cReduce), (55, cReduceR), (24, cSameR), (16, cSane4), (26, cSmallest)]) (Θ := Th) (n := 87) [] ⟨cIsGood_ok, cLong4_ok, cMany4_ok, cReduce_ok, cReduceR_ok, cSameR_ok, cSane4_ok, cSmallest_ok, trivial⟩ (by kernel_rfl) th_ok mix_ok Go.Proofs.Tryz.func14 (by kernel_rfl) ?_
  intro x hw hp Λ hC
  have h0 := h x.1 x.2.1 x.2.2.1 hw  
  exact Eq.mpr (by kernel_rfl) h0
theorem cPatchReduces_ok : ConOK Go.Proofs.Tryz.prog 14 cPatchReduces := by
  refine cPatchReduces_law ?_
  intro p x l hw
  unfold cPatchReduces_0
  refine ⟨trivial, ?_⟩
  cases c : (decide (p.length > 100) || decide (x.length > 100))
  · obtain ⟨_, c2⟩ := long_false c
    rw [if_neg (by simp)]
    refine ⟨trivial, trivial, ?_⟩
    cases d : (decide (l.length > 50) || l.any (fun t' => decide (50 < t'.1.length)))
    · rw [if_neg (by simp)]
      by_cases h : redN p x l = 0
      · have h0 : errXT p x l = 0 ∧ goodX p x l = true := by
          unfold redN at h
          split at h
          · split at h
            · exact ⟨by assumption, by assumption⟩
            · cases h
          · rename_i g; exact absurd h g
        obtain ⟨e1, e2⟩ := h0
        obtain ⟨f1, f2⟩ := redX_ok e2
        have f3 := errXT_sub e1 f1
        have f4 := small_has f1 f2
        have f5 := (small_good f4).2.2 _ f1 f2
        have f6 : (redX p x l).length ≤ 1000000 := by have := f1.length_le; omega
        simp [h, e1, f2, f3, f4, f5, f6]
      · simp [h]
    · rw [if_pos (by rfl)]; exact ⟨trivial, rfl, trivial⟩
  · rw [if_pos rfl]; exact ⟨rfl, trivial, rfl, trivial⟩
end Go.Tk
