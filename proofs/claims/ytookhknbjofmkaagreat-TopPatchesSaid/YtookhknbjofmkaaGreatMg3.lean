/- Merged: C4r C4t. -/
import Derived.Test.YtookhknbjofmkaaGreatMg2
import Derived.Shelf.SlicesE.Delete
/- Layer 4: slices.Delete of edits, by hand. -/
set_option linter.unusedSimpArgs false
set_option linter.unusedVariables false
set_option linter.unnecessarySimpa false
set_option maxRecDepth 10000
set_option maxHeartbeats 400000
namespace Go.Tk
open Go Go.RowKit
theorem row_cell {w : World} {b k : Nat} {cur : Array Value} {e : TypeId} (h : w.heap[b]? = some (.cells cur e (0, 0))) : w.cell? ⟨b, k, none⟩ = cur[k]? := by
  simp [World.cell?, h]
theorem row_warm {w : World} {b k : Nat} {cur : Array Value} {e : TypeId} (h : w.heap[b]? = some (.cells cur e (0, 0))) : w.frozen? ⟨b, k, none⟩ = false := by
  unfold World.frozen?
  rw [h]
  simp
theorem setCells_row (P : Program) {w : World} {b o : Nat} {cur : Array Value} {e : TypeId} {vs : List Value} (h : w.heap[b]? = some (.cells cur e (0, 0))) (hf : o + vs.length ≤ cur.size) (h1 : ∀ v ∈ vs, v.oneCell' = true) :
    w.setCells b o vs = w.setRow b (cur.toList.take o ++ vs ++ cur.toList.drop (o + vs.length)).toArray := by
  have e1 := run_storeCells_cells (P := P) b o vs 0 w (fun j hj => by rw [row_cell h]; rw [Array.getElem?_eq_getElem (by omega)]; rfl) (fun j hj => row_warm h) h1
  have e2 := run_storeCells_at P b o e vs 0 cur w h (by omega) h1
  simp only [Nat.add_zero] at e1 e2
  rw [e1] at e2
  injection e2
theorem ed_info : ∃ i0, Go.Proofs.Tryz.prog.info? 33 = some i0 ∧ i0.size = 5 := by
  obtain ⟨fi, i1, i2, _⟩ := tys_info ((tyB_ok Go.Proofs.Tryz.prog tEd).1 33 (by kernel_rfl))
  exact ⟨fi, i1, i2⟩
theorem ed_slice : Go.Proofs.Tryz.prog.underlying 23 = some (.slice 33) := by kernel_rfl
def zE (n : Nat) : List Value := (List.replicate n (zeroCs tEd)).flatten
theorem zE_len (n : Nat) : (zE n).length = n * 5 := by
  unfold zE
  induction n with
  | zero => rfl
  | succ n ih => rw [List.replicate_succ, List.flatten_cons, List.length_append, ih]; show 5 + n * 5 = _; omega
theorem zE_one (n : Nat) : ∀ v ∈ zE n, v.oneCell' = true := by
  intro v hv
  obtain ⟨l, hl1, hl2⟩ := List.mem_flatten.1 hv
  rw [List.eq_of_mem_replicate hl1] at hl2
  exact c_one (P := Go.Proofs.Tryz.prog) (w := default) (S := fun _ => True) tEd (zeroCs_c rfl) v hl2
theorem clr_run {w : World} {b o n c : Nat} {cur : Array Value} {e : TypeId} (h : w.heap[b]? = some (.cells cur e (0, 0))) (hf : o + n * 5 ≤ cur.size) (hn : 0 < n) (ty : TypeId) :
    (Builtin.clear_ #[23] ty #[.slice (some ⟨b, o, none⟩) n c]).run Go.Proofs.Tryz.prog w = .ok (.tuple #[]) (w.setCells b o (zE n)) := by
  have hzc : (Builtin.zeroCells (mkV tEd (zeroCs tEd)).cells n).toList = zE n := by
    unfold Builtin.zeroCells
    rw [zero_cells Go.Proofs.Tryz.prog w (t := tEd) rfl]
    have hzl : (zeroCs tEd).length = tEd.csize := rfl
    have := zero_row Go.Proofs.Tryz.prog w tEd rfl n
    have h0 : ¬ n * tEd.csize = 0 := by show ¬ n * 5 = 0; omega
    simp only [h0, if_false] at this
    rw [show zE n = (List.replicate n (zeroCs tEd)).flatten from rfl, ← this]
    simp [hzl]
  have hst := run_storeCells_cells (P := Go.Proofs.Tryz.prog) b o (zE n) 0 w (fun j hj => by rw [zE_len] at hj; rw [row_cell h]; rw [Array.getElem?_eq_getElem (by omega)]; rfl) (fun j hj => row_warm h) (zE_one n)
  simp only [Nat.add_zero] at hst
  have hu := run_underlying (P := Go.Proofs.Tryz.prog) ed_slice w
  have hzv := tys_zero (P := Go.Proofs.Tryz.prog) ((tyB_ok Go.Proofs.Tryz.prog tEd).1 33 (by kernel_rfl)) rfl w
  obtain ⟨m, rfl⟩ : ∃ m, n = m + 1 := ⟨n - 1, by omega⟩
  simp [Builtin.clear_, hu, hzv, hzc, hst]
theorem run_clr {P : Program} {ev : Operand → Value} {w w' : World} {o : Oper} {x : Operand} {tt : Array TypeId} {v v' : Value} (ho : o.op = .call ⟨.builtin .clear, #[x], tt⟩) (hx : ev x = v) (h : (Builtin.clear_ tt o.type #[v]).run P w = .ok v' w') : (execOp ev o).run P w = .ok (.value v') w' := by
  unfold execOp
  rw [ho]
  simp only [resolve, Sem.run_bind, Sem.run_pure, Result.andThen_ok, invoke, builtin]
  have h' : (Builtin.clear_ tt o.type (Array.map ev #[x])).run P w = .ok v' w' := by simpa [hx] using h
  rw [h']
  rfl
theorem del_call {w : World} {b off n cap i j : Nat} {cur : Array Value} {e : TypeId} (h : w.heap[b]? = some (.cells cur e (0, 0))) (hij : i < j) (hj : j ≤ n) (hn : n ≤ cap) (hc : cap ≤ 9223372036854775807) (hf : off + cap * 5 ≤ cur.size)
    (h1 : ∀ v ∈ (cur.toList.drop (off + j * 5)).take ((n - j) * 5), v.oneCell' = true) :
    Calls Go.Proofs.Tryz.prog 42 #[.slice (some ⟨b, off, none⟩) n cap, .int .i64 i, .int .i64 j] w fun en w' => en = .returned (.slice (some ⟨b, off, none⟩) (n - (j - i)) cap) ∧
      w' = (w.drew.setCells b (off + i * 5) ((cur.toList.drop (off + j * 5)).take ((n - j) * 5))).setCells b (off + (i + (n - j)) * 5) (zE (n - (i + (n - j)))) := by
  obtain ⟨news, hnews⟩ : ∃ news, news = (cur.toList.drop (off + j * 5)).take ((n - j) * 5) := ⟨_, rfl⟩
  rw [← hnews] at h1 ⊢
  have hlen : news.length = (n - j) * 5 := by rw [hnews, List.length_take, List.length_drop, Array.length_toList]; omega
  have hd : w.drew.heap[b]? = some (.cells cur e (0, 0)) := h
  obtain ⟨i0, hi0, hz5⟩ := ed_info
  obtain ⟨A, hA, hsrc⟩ : ∃ A : Addr, (if cap = j then some (⟨b, off, none⟩ : Addr) else some ⟨b, off + j * 5, none⟩) = some A ∧ (∀ t u, news[t]? = some u → w.drew.cell? (A.add t) = some u) := by
    by_cases hcj : cap = j
    · refine ⟨⟨b, off, none⟩, by simp [hcj], fun t u hu => ?_⟩
      have h0 : news.length = 0 := by rw [hlen]; omega
      rw [List.length_eq_zero_iff.1 h0] at hu
      simp at hu
    · refine ⟨⟨b, off + j * 5, none⟩, by simp [hcj], fun t u hu => ?_⟩
      rw [addr_add, row_cell hd, ← Array.getElem?_toList]
      rw [hnews, List.getElem?_take] at hu
      split at hu
      · rw [List.getElem?_drop] at hu; exact hu
      · cases hu
  have s3 : ∀ t, t < news.length → (w.drew.cell? ⟨b, off + i * 5 + t, none⟩).isSome = true ∧ w.drew.frozen? ⟨b, off + i * 5 + t, none⟩ = false := by
    intro t ht
    rw [hlen] at ht
    refine ⟨?_, row_warm hd⟩
    rw [row_cell hd, Array.getElem?_eq_getElem (by omega)]; rfl
  obtain ⟨W1, hW1⟩ : ∃ W1, W1 = w.drew.setCells b (off + i * 5) news := ⟨_, rfl⟩
  have hrow : W1 = w.drew.setRow b (cur.toList.take (off + i * 5) ++ news ++ cur.toList.drop (off + i * 5 + news.length)).toArray := by rw [hW1]; exact setCells_row Go.Proofs.Tryz.prog hd (by rw [hlen]; omega) h1
  have hr1 : W1.heap[b]? = some (.cells (cur.toList.take (off + i * 5) ++ news ++ cur.toList.drop (off + i * 5 + news.length)).toArray e (0, 0)) := by rw [hrow]; exact setRow_heap _ _ _ _ _ _ hd
  have hsz : (cur.toList.take (off + i * 5) ++ news ++ cur.toList.drop (off + i * 5 + news.length)).toArray.size = cur.size := by simp [hlen]; omega
  have hcl := fun ty => clr_run (c := cap - (i + (n - j))) hr1 (o := off + (i + (n - j)) * 5) (n := n - (i + (n - j))) (by rw [hsz]; omega) (by omega) ty
  rw [← hW1]
  have hic : i ≤ cap := by omega
  have hjc : j ≤ cap := by omega
  have hin : i ≤ n := by omega
  clear hrow hr1 hsz hnews hd
  refine calls_of_wp Go.Proofs.Tryz.func42 rfl ?_
  rw [Go.Proofs.Tryz.ntmps42]
  refine (wpIn_wide (n := 0)).1 ?_
  show Code.wpIn (Fw none) 0 _ _ _ _ _
  refine wpIn_seq (ql_region rfl ?_)
  simp [ql, go_sem, Exit.then]
  refine wpIn_seq (ql_region rfl ?_)
  simp [ql, go_sem, Exit.then, hin, hj, hn, Nat.le_of_lt hij]
  refine wpIn_seq (wpIn_seq (ql_region rfl ?_))
  simp [ql, go_sem, Exit.then]
  refine wpIn_cond_false (by simp [Act.eval]; omega) (wpIn_skip ?_)
  simp only [Exit.then]
  refine wpIn_seq (ql_region rfl ?_)
  simp [ql, go_sem, Exit.then]
  refine wpIn_seq ((wpIn_wide (n := 0)).2 ?_)
  have mixed := mix_ok
  go_region_law_o (refine step_append_room rfl (.tmp 22) (.tmp 25) 23 rfl 33 i0 5 ed_slice hi0 hz5 b off i cap (by simp [Act.eval, Act.put]) A (n - j) (cap - j) news (by simp [Act.eval, Act.put]) hlen hsrc h1 (by omega) s3 ?_)
  simp only [Exit.then, ← hW1]
  generalize hm : i + (n - j) = m at *
  have hm1 : m ≤ n := by omega
  have hne : ¬ cap = m := by omega
  refine wpIn_seq (ql_pre 5 (by decide) rfl ?_)
  simp [ql, go_sem, hm1, hn, hne]
  show wpOpsIn _ _ _ _ _ [5] _ _
  refine sp_val (v := .tuple #[]) (w1 := W1.setCells b (off + m * 5) (zE (n - m))) rfl rfl (run_clr rfl (by simp [Act.eval]) (hcl _)) ?_
  show Code.wpIn (Fw none) 0 _ _ _ _ _
  refine wpIn_seq (ql_region rfl ?_)
  simp [ql, go_sem, Exit.then]
  refine wpIn_ret ?_
  refine ⟨rfl, .slice (some ⟨b, off, none⟩) m cap, ?_, ?_, rfl⟩
  · simp [results, Go.Proofs.Tryz.results42, go_sem]
  · rw [show n - (j - i) = m by omega]
theorem repL_ones {α : Type} {R : α → List Value → Prop} (h : ∀ x cs, R x cs → ∀ v ∈ cs, v.oneCell' = true) : ∀ xs cs, repL R xs cs → ∀ v ∈ cs, v.oneCell' = true
  | [], cs, e, v, hv => by simp [repL] at e; rw [e] at hv; cases hv
  | x :: xs, _, ⟨c1, c2, rfl, h1, h2⟩, v, hv => (List.mem_append.1 hv).elim (h x c1 h1 v) (repL_ones h xs c2 h2 v)
theorem cut_cells {cur news rest rest2 : List Value} {off n : Nat} (h : off + n ≤ cur.length) : (((cur.take (off + n) ++ news ++ rest).take (off + n + news.length) ++ rest2).drop off).take (n + news.length) = (cur.drop off).take n ++ news := by
  have l1 : (cur.take (off + n)).length = off + n := by rw [List.length_take]; omega
  have l2 : (cur.take off).length = off := by rw [List.length_take]; omega
  have l3 : ((cur.drop off).take n ++ news).length = n + news.length := by rw [List.length_append, List.length_take, List.length_drop]; omega
  rw [List.take_left' (by rw [List.length_append, l1]), show cur.take (off + n) = cur.take off ++ (cur.drop off).take n from List.take_add, List.append_assoc, List.append_assoc, List.drop_left' l2, ← List.append_assoc, List.take_left' l3]
abbrev cDelEd : InC := { a := tEd, B := (.cons .int (.cons .int .nil)), pre := fun xs x => 0 ≤ x.1 ∧ x.1 < x.2.1 ∧ x.2.1 ≤ xs.length, F := fun xs x => xs.take x.1.toNat ++ xs.drop x.2.1.toNat, ret := true }
theorem cDelEd_ok : FunOK Go.Proofs.Tryz.prog 42 ∧ InF Go.Proofs.Tryz.prog 42 cDelEd := by
  refine ⟨funB_ok (by kernel_rfl), ?_⟩
  rintro w S xs ⟨i, j, ⟨⟩⟩ v ob vs hown hnS hv hp
  change List Edt at xs
  change Int at i
  change Int at j
  obtain ⟨p1, p2, p3⟩ : 0 ≤ i ∧ i < j ∧ j ≤ xs.length := hp
  obtain ⟨v1, vs1, b1, b2, rfl, _, h1, h2⟩ := hv
  obtain ⟨v2, vs2, b3, b4, rfl, _, h3, h4⟩ := h2
  obtain ⟨rfl, _⟩ : vs2 = [] ∧ _ := h4
  obtain ⟨_, c1, rfl, q1, _⟩ := h1
  obtain ⟨_, c2, rfl, q2, _⟩ := h3
  change c1 = [.int .i64 i] at q1
  change c2 = [.int .i64 j] at q2
  subst q1
  subst q2
  obtain ⟨a, rfl⟩ : ∃ a : Nat, i = a := ⟨i.toNat, by omega⟩
  obtain ⟨c, rfl⟩ : ∃ c : Nat, j = c := ⟨j.toNat, by omega⟩
  rcases hown with ⟨rfl, rfl, rfl⟩ | ⟨b, off, cap, cur, e, rfl, rfl, _, h4, h5, h6, h7, h8⟩
  · simp at p3; omega
  · have h7 : off + cap * 5 ≤ cur.size := h7
    have h8 : repL ((reps Go.Proofs.Tryz.prog tEd).c w S) xs ((cur.toList.drop off).take (xs.length * 5)) := h8
    have hac : a < c := by omega
    have hcn : c ≤ xs.length := by omega
    have hln : ∀ (x : Edt) cs, (reps Go.Proofs.Tryz.prog tEd).c w S x cs → cs.length = 5 := fun x cs h => by rw [(ed_cs h).1]; rfl
    have hmove : ∀ (W : World) (S' : Nat → Prop) (x : Edt) cs, (reps Go.Proofs.Tryz.prog tEd).c w S x cs → (reps Go.Proofs.Tryz.prog tEd).c W S' x cs := fun W S' x cs h => by
      obtain ⟨rfl, h0, h1⟩ := ed_cs h
      exact ⟨[_], _, rfl, ⟨rfl, h0⟩, _, [], (List.append_nil _).symm, ln_rep h1, rfl⟩
    have k1 := h8
    rw [(List.take_append_drop c xs).symm] at k1
    have k2 := (repL_split hln _ _ _ k1).2
    have k3 := h8
    rw [(List.take_append_drop a xs).symm] at k3
    have k4 := (repL_split hln _ _ _ k3).1
    rw [List.take_append_drop, List.length_take, Nat.min_eq_left hcn, List.drop_take, List.drop_drop, show xs.length * 5 - c * 5 = (xs.length - c) * 5 by omega] at k2
    rw [List.take_append_drop, List.length_take, Nat.min_eq_left (by omega), List.take_take, Nat.min_eq_left (by omega)] at k4
    obtain ⟨news, hnews⟩ : ∃ news, news = (cur.toList.drop (off + c * 5)).take ((xs.length - c) * 5) := ⟨_, rfl⟩
    have hone := repL_ones (fun x cs h => c_one tEd h) _ _ k2
    have hcs : cur.toList.length = cur.size := Array.length_toList
    have hlen : news.length = (xs.length - c) * 5 := by rw [hnews, List.length_take, List.length_drop, hcs]; omega
    refine (del_call h4 hac hcn h5 h6.2 h7 hone).mono ?_
    rw [← hnews] at k2 hone ⊢
    rintro en w' ⟨rfl, hw'⟩
    have hd : w.drew.heap[b]? = some (.cells cur e (0, 0)) := h4
    obtain ⟨cu1, hcu1⟩ : ∃ cu1, cu1 = (cur.toList.take (off + a * 5) ++ news ++ cur.toList.drop (off + a * 5 + news.length)).toArray := ⟨_, rfl⟩
    have hsz : cu1.size = cur.size := by rw [hcu1]; simp [hlen]; omega
    rw [setCells_row Go.Proofs.Tryz.prog hd (by rw [hlen]; omega) hone, ← hcu1] at hw'
    have hr1 : (w.drew.setRow b cu1).heap[b]? = some (.cells cu1 e (0, 0)) := setRow_heap _ _ _ _ _ _ hd
    rw [setCells_row Go.Proofs.Tryz.prog hr1 (by rw [zE_len, hsz]; omega) (zE_one _), setRow_setRow] at hw'
    obtain ⟨cu2, hcu2⟩ : ∃ cu2, cu2 = (cu1.toList.take (off + (a + (xs.length - c)) * 5) ++ zE (xs.length - (a + (xs.length - c))) ++ cu1.toList.drop (off + (a + (xs.length - c)) * 5 + (zE (xs.length - (a + (xs.length - c)))).length)).toArray := ⟨_, rfl⟩
    rw [← hcu2] at hw'
    subst hw'
    have hsz2 : cu2.size = cur.size := by rw [hcu2]; simp [zE_len, hsz]; omega
    have hr2 : (w.drew.setRow b cu2).heap[b]? = some (.cells cu2 e (0, 0)) := setRow_heap _ _ _ _ _ _ hd
    have hl2 : (xs.take a ++ xs.drop c).length = a + (xs.length - c) := by simp only [List.length_append, List.length_take, List.length_drop]; omega
    have hcells : (cu2.toList.drop off).take ((xs.take a ++ xs.drop c).length * 5) = (cur.toList.drop off).take (a * 5) ++ news := by
      have e1 : off + (a + (xs.length - c)) * 5 = off + a * 5 + news.length := by rw [hlen]; omega
      have e2 : (a + (xs.length - c)) * 5 = a * 5 + news.length := by rw [hlen]; omega
      rw [hl2, hcu2, List.toList_toArray, e1, e2, hcu1, List.toList_toArray, List.append_assoc (List.take _ _) (zE _)]
      exact cut_cells (by rw [hcs]; omega)
    refine ⟨.slice (some ⟨b, off, none⟩) (xs.length - (c - a)) cap, some (b, off), rfl, .inr ⟨b, off, cap, cu2, e, rfl, ?_, trivial, hr2, ?_, ?_, ?_, ?_⟩, fun b' o e => .inr ⟨o, e⟩, ?_⟩
    · show _ = Value.slice _ (xs.take a ++ xs.drop c).length cap
      rw [hl2, show xs.length - (c - a) = a + (xs.length - c) by omega]
    · show (xs.take a ++ xs.drop c).length ≤ cap
      rw [hl2]; omega
    · have h61 := h6.1
      exact ⟨show (xs.take a ++ xs.drop c).length ≤ 140737488355328 by rw [hl2]; omega, h6.2⟩
    · show off + cap * 5 ≤ cu2.size
      rw [hsz2]; exact h7
    · show repL _ (xs.take a ++ xs.drop c) ((cu2.toList.drop off).take ((xs.take a ++ xs.drop c).length * 5))
      rw [hcells]
      exact repL_append _ _ _ _ (repL_mono (hmove _ _) _ _ k4) (repL_mono (hmove _ _) _ _ k2)
    · refine ⟨rfl, rfl, rfl, by rw [setRow_size]; exact Nat.le_refl _, fun i hi hne => ?_⟩
      rw [setRow_other _ _ _ _ (fun h => hne off (by rw [h]))]
      rfl
def backE (x : List Edt) : Nat → List (Int × Edt × Unit)
  | 0 => []
  | n + 1 => ((n : Int), x.getD n tEd.dflt, ()) :: backE x n
theorem backE_len (h : List Edt) : ∀ n, (backE h n).length = n
  | 0 => rfl
  | n + 1 => by unfold backE; rw [List.length_cons, backE_len h n]
theorem backE_get (h : List Edt) : ∀ n k, k < n → (backE h n)[k]? = some (((n - 1 - k : Nat) : Int), h.getD (n - 1 - k) tEd.dflt, ())
  | 0, k, hk => by omega
  | n + 1, 0, hk => by unfold backE; simp
  | n + 1, k + 1, hk => by
    unfold backE
    rw [List.getElem?_cons_succ, backE_get h n k (by omega), show n + 1 - 1 - (k + 1) = n - 1 - k by omega]
abbrev cBackE1 : Con := { A := (.cons (.ref (.sl tEd)) .nil), R := .seq false (.cons .int (.cons tEd .nil)), pre := fun _ => True, F := fun x => ((True, backE x.1 (x.1).length) : Prop × List (Int × Edt × Unit)) }
def cBackE1_0 (Λ1 : Int → Nat → Prop) (c0 : (List Edt)) (y0 : List (Int × Edt × Unit)) : Prop :=
  inI ((List.length c0 : Int) - (1 : Int)) ∧ Λ1 ((List.length c0 : Int) - (1 : Int)) 0
def cBackE1_1 (Λ1 : Int → Nat → Prop) (c0 : (List Edt)) (y0 : List (Int × Edt × Unit))  (i_1 : Int) (k_1 : Nat) : Prop :=
  if (decide (i_1 ≥ (0 : Int))) = true then (idx i_1 (List.length c0 : Int) ∧ (y0[k_1]? = some (i_1, (List.getD c0 (Int.toNat i_1) tEd.dflt), ()) ∧ (inI (i_1 - (1 : Int)) ∧ Λ1 (i_1 - (1 : Int)) (k_1 + 1)) ∧ True)) else k_1 = List.length y0
theorem cBackE1_law (h : ∀ (c0 : (List Edt)), cBackE1.A.wf (c0, ()) → ((True, backE c0 (c0).length)).1 → ∀ (Λ1 : Int → Nat → Prop), (∀ (i_1 : Int) (k_1 : Nat), cBackE1_1 Λ1 c0 ((True, backE c0 (c0).length)).2 i_1 k_1 → Λ1 i_1 k_1) → cBackE1_0 Λ1 c0 ((True, backE c0 (c0).length)).2) : ConOK Go.Proofs.Tryz.prog 56 cBackE1 := by
  refine lawIt (X := { subs := [], frz := [], U := [], mul := [], nst := [], nls := [], itf := some false, inp := [], arrs := [] }) (hX := xok0 _ trivial) (Γ := []) (Θ := Th) (n := 19) [([1, 0], ⟨[(0, true), (1, false), (3, true)], [(5000000, true)]⟩)] trivial (by kernel_rfl) th_ok mix_ok Go.Proofs.Tryz.func56 (by kernel_rfl) ?_
  intro x hw hp Λ hC
  have h0 := h x.1 hw hp (fun i_1 k_1 => Λ [1, 0] ([(0, .yld), (1, .d false (.ref (.sl tEd)) x.1), (3, .d true .int i_1)], [(5000000, .it (.cons .int (.cons tEd .nil)) (cBackE1.F x).2 k_1)])) (fun i_1 k_1 hb => hC [1, 0] ([(0, .yld), (1, .d false (.ref (.sl tEd)) x.1), (3, .d true .int i_1)], [(5000000, .it (.cons .int (.cons tEd .nil)) (cBackE1.F x).2 k_1)]) (Eq.mpr (by kernel_rfl) hb))
  exact Eq.mpr (by kernel_rfl) h0
theorem cBackE1_ok : ConOK Go.Proofs.Tryz.prog 56 cBackE1 := by
  refine cBackE1_law ?_
  intro c0 hw hp Λ1 h1
  unfold cBackE1_0
  have hlc : c0.length ≤ 140737488355328 := hw.1.1
  refine ⟨by unfold inI; omega, ?_⟩
  have key := upto (n := c0.length) (Q := fun k => Λ1 ((c0.length : Int) - 1 - k) k) ?_ ?_ 0 (Nat.zero_le _)
  · simpa using key
  · apply h1; unfold cBackE1_1
    rw [if_neg (by rw [decide_eq_true_eq]; omega), backE_len]
  · intro k hk ih
    apply h1; unfold cBackE1_1
    rw [if_pos (by rw [decide_eq_true_eq]; omega), backE_get c0 _ k hk]
    have e : ((c0.length : Int) - 1 - k).toNat = c0.length - 1 - k := by omega
    rw [e]
    refine ⟨⟨by omega, by omega⟩, ?_, ⟨by unfold inI; omega, ?_⟩, trivial⟩
    · congr 2; omega
    · rw [show ((c0.length : Int) - 1 - k - 1) = (c0.length : Int) - 1 - ((k + 1 : Nat) : Int) by omega]; exact ih
abbrev cBackE : Con := { A := (.cons (.sl tEd) .nil), R := (.cons (.seq false (.cons .int (.cons tEd .nil))) .nil), pre := fun x => True, F := fun x => ((True, backE x.1 (x.1).length), ()), al := true }
def cBackE_0  (s : (List Edt)) (y0 : (Prop × List (Int × Edt × Unit))) : Prop :=
  ((True, backE s (s).length)) = y0 ∧ True
theorem cBackE_law (h : ∀ (s : (List Edt)), cBackE.A.wf (s, ()) → cBackE_0  s (True, backE s (s).length)) : ConOK Go.Proofs.Tryz.prog 41 cBackE := by
  refine lawX (X := { subs := [], frz := [1], U := [], mul := [], nst := [], nls := [], itf := none, inp := [], arrs := [] }) (hX := xok0 _ trivial) (Γ := [(56, cBackE1)]) (Θ := Th) (n := 4) [] ⟨cBackE1_ok, trivial⟩ (by kernel_rfl) th_ok mix_ok Go.Proofs.Tryz.func41 (by kernel_rfl) ?_
  intro x hw hp Λ hC
  have h0 := h x.1 hw  
  exact Eq.mpr (by kernel_rfl) h0
theorem cBackE_ok : ConOK Go.Proofs.Tryz.prog 41 cBackE := by
  refine cBackE_law ?_
  intro s hw
  unfold cBackE_0
  exact ⟨rfl, trivial⟩
theorem erase_eq (o : List Edt) (i : Nat) : o.take i ++ o.drop (i + 1) = o.eraseIdx i := (List.eraseIdx_eq_take_drop_succ o i).symm
theorem redTo_succ (p : List Lin) (l : List Tst) (i : Nat) (o : List Edt) : redTo p l (i + 1) o = redTo p l i (if goodX p (o.eraseIdx i) l = true then o.eraseIdx i else o) := rfl
abbrev cReduce : Con := { A := (.cons (.sl tL) (.cons (.sl tEd) (.cons (.sl tTs) .nil))), R := (.cons (.sl tEd) (.cons .int .nil)), pre := fun x => True, F := fun x => ((if redN x.1 x.2.1 x.2.2.1 = 0 then redX x.1 x.2.1 x.2.2.1 else []), redN x.1 x.2.1 x.2.2.1, ()), al := true }
def cReduce_0 (Λ1 : (List Edt) → Nat → Prop) (p : (List Lin)) (x : (List Edt)) (l : (List Tst)) (y0 : (List Edt)) (y1 : Int) : Prop :=
  True ∧ (if ((errXT p x l) != (0 : Int)) = true then (([] : List Edt) = y0 ∧ (errXT p x l) = y1 ∧ True) else (errXT p x l = 0 ∧ (if (!(goodX p x l)) = true then (([] : List Edt) = y0 ∧ (6 : Int) = y1 ∧ True) else (x.length ≤ 1000000 ∧ (True ∧ (((True, backE x (x).length)).1 ∧ Λ1 x 0))))))
def cReduce_1 (Λ1 : (List Edt) → Nat → Prop) (p : (List Lin)) (x : (List Edt)) (l : (List Tst)) (y0 : (List Edt)) (y1 : Int)  (out_1 : (List Edt)) (k_1 : Nat) : Prop :=
  (∀ e1 : (Int × Edt × Unit), (((True, backE x (x).length)).2)[k_1]? = some e1 → (out_1.length ≤ 1000000 ∧ (inI (e1.1 + (1 : Int)) ∧ ((0 ≤ e1.1 ∧ e1.1 < (e1.1 + (1 : Int)) ∧ (e1.1 + (1 : Int)) ≤ out_1.length) ∧ (errXT p (out_1.take e1.1.toNat ++ out_1.drop (e1.1 + (1 : Int)).toNat) l = 0 ∧ (if (goodX p (out_1.take e1.1.toNat ++ out_1.drop (e1.1 + (1 : Int)).toNat) l) = true then Λ1 (out_1.take e1.1.toNat ++ out_1.drop (e1.1 + (1 : Int)).toNat) (k_1 + 1) else Λ1 out_1 (k_1 + 1))))))) ∧ (List.length (((True, backE x (x).length)).2) ≤ k_1 → (out_1 = y0 ∧ (0 : Int) = y1 ∧ True))
theorem cReduce_law (h : ∀ (p : (List Lin)) (x : (List Edt)) (l : (List Tst)), cReduce.A.wf (p, x, l, ()) → ∀ (Λ1 : (List Edt) → Nat → Prop), (∀ (out_1 : (List Edt)) (k_1 : Nat), cReduce_1 Λ1 p x l (if redN p x l = 0 then redX p x l else []) (redN p x l) out_1 k_1 → Λ1 out_1 k_1) → cReduce_0 Λ1 p x l (if redN p x l = 0 then redX p x l else []) (redN p x l)) : ConOK Go.Proofs.Tryz.prog 20 cReduce := by
  refine lawX (X := { subs := [], frz := [], U := [], mul := [], nst := [], nls := [], itf := none, inp := [(42, cDelEd)], arrs := [] }) (hX := xok0 _ ⟨cDelEd_ok, trivial⟩) (Γ := [(41, cBackE), (23, cChk), (26, cCloneE), (35, cIsGood0)]) (Θ := Th) (n := 42) [([1, 1, 1, 1, 0, 1, 0], ⟨[(3, true), (5, true), (6, true), (7, true), (9, true)], [(3, false), (5, false), (6, true), (9, true), (4000000, true)]⟩)] ⟨cBackE_ok, cChk_ok, cCloneE_ok, cIsGood0_ok, trivial⟩ (by kernel_rfl) th_ok mix_ok Go.Proofs.Tryz.func20 (by kernel_rfl) ?_
  intro x hw hp Λ hC
  have h0 := h x.1 x.2.1 x.2.2.1 hw (fun out_1 k_1 => Λ [1, 1, 1, 1, 0, 1, 0] ([(3, .ptr 3 0 []), (5, .ptr 5 0 []), (6, .own 6 0), (7, .d true .int 0), (9, .ptr 9 0 [])], [(3, .box false (.sl tL) x.1), (5, .box false (.sl tTs) x.2.2.1), (6, .sl true tEd ([] : List Edt)), (9, .box true (.sl tEd) out_1), (4000000, .rg false (.cons .int (.cons tEd .nil)) (((True, backE x.2.1 (x.2.1).length)).2) k_1)])) (fun out_1 k_1 hb => hC [1, 1, 1, 1, 0, 1, 0] ([(3, .ptr 3 0 []), (5, .ptr 5 0 []), (6, .own 6 0), (7, .d true .int 0), (9, .ptr 9 0 [])], [(3, .box false (.sl tL) x.1), (5, .box false (.sl tTs) x.2.2.1), (6, .sl true tEd ([] : List Edt)), (9, .box true (.sl tEd) out_1), (4000000, .rg false (.cons .int (.cons tEd .nil)) (((True, backE x.2.1 (x.2.1).length)).2) k_1)]) (Eq.mpr (by kernel_rfl) hb))
  exact Eq.mpr (by kernel_rfl) h0
theorem cReduce_ok : ConOK Go.Proofs.Tryz.prog 20 cReduce := by
  refine cReduce_law ?_
  intro p x l hw Λ1 h1
  unfold cReduce_0
  refine ⟨trivial, ?_⟩
  by_cases h : errXT p x l = 0
  · have h4 := (validX_ok (errXT_ok h).2.1).1
    rw [if_neg (by simp [h])]
    refine ⟨h, ?_⟩
    cases g : goodX p x l
    · have hN : redN p x l = 6 := by unfold redN; rw [if_pos h, g]; rfl
      rw [if_pos (by rfl), hN]
      exact ⟨rfl, rfl, trivial⟩
    · have hN : redN p x l = 0 := by unfold redN; rw [if_pos h, g]; rfl
      rw [if_neg (by simp)]
      refine ⟨by omega, trivial, trivial, ?_⟩
      have key : ∀ j k o, j + k = x.length → o.Sublist x → j ≤ o.length → redTo p l j o = redX p x l → Λ1 o k := by
        intro j
        induction j with
        | zero =>
          intro k o hk ho _ hr
          apply h1; unfold cReduce_1
          refine ⟨fun e1 he => ?_, fun _ => ?_⟩
          · have := (List.getElem?_eq_some_iff.1 he).1
            rw [backE_len] at this; omega
          · have hr : o = redX p x l := hr
            rw [hN, if_pos rfl]; exact ⟨hr, rfl, trivial⟩
        | succ j ih =>
          intro k o hk ho hj hr
          have hol := ho.length_le
          rw [redTo_succ] at hr
          apply h1; unfold cReduce_1
          refine ⟨fun e1 he => ?_, fun hle => ?_⟩
          · rw [backE_get x _ k (by omega)] at he
            cases he
            have e : (((x.length - 1 - k : Nat) : Int) + 1).toNat = j + 1 := by omega
            have e2 : (((x.length - 1 - k : Nat) : Int)).toNat = j := by omega
            show _ ∧ _ ∧ _ ∧ errXT p (o.take (((x.length - 1 - k : Nat) : Int)).toNat ++ o.drop (((x.length - 1 - k : Nat) : Int) + 1).toNat) l = 0 ∧ (if goodX p (o.take (((x.length - 1 - k : Nat) : Int)).toNat ++ o.drop (((x.length - 1 - k : Nat) : Int) + 1).toNat) l = true then Λ1 (o.take (((x.length - 1 - k : Nat) : Int)).toNat ++ o.drop (((x.length - 1 - k : Nat) : Int) + 1).toNat) (k + 1) else _)
            rw [e, e2, erase_eq]
            have hs : (o.eraseIdx j).Sublist x := (List.eraseIdx_sublist ..).trans ho
            refine ⟨by omega, by unfold inI; omega, ⟨by omega, by omega, by omega⟩, errXT_sub h hs, ?_⟩
            cases gd : goodX p (o.eraseIdx j) l
            · rw [gd, if_neg (by simp)] at hr
              rw [if_neg (by simp)]
              exact ih (k + 1) o (by omega) ho (by omega) hr
            · rw [gd, if_pos rfl] at hr
              rw [if_pos rfl]
              refine ih (k + 1) _ (by omega) hs ?_ hr
              rw [List.length_eraseIdx, if_pos (by omega)]; omega
          · rw [backE_len] at hle; omega
      exact key x.length 0 x (by omega) (List.Sublist.refl _) (Nat.le_refl _) rfl
  · have hN : redN p x l = errXT p x l := by unfold redN; rw [if_neg h]
    rw [if_pos (by simpa using h), hN, if_neg h]
    exact ⟨rfl, rfl, trivial⟩
end Go.Tk
/- The top statement of layer 4. -/
set_option linter.unusedSimpArgs false
set_option linter.unusedVariables false
set_option linter.unnecessarySimpa false
namespace Go.Tk
open Go Go.RowKit
theorem diff_self {p : List Lin} {x : List Edt} (h : errX p x = 0) : diffN p (playX p x) = 0 ∧ diffX p (playX p x) = cleanX p x := by
  obtain ⟨h1, h2, h3⟩ := errX_ok h
  have e : errPQ p (playX p x) = 0 := by unfold errPQ; rw [if_pos h1]; exact errX_play h
  have hl : (diffE p (playX p x) (playX p x).length).length ≤ 4 := by
    rw [diff_done h, read_len]
    exact Nat.le_trans (clean_sub p x).length_le (validX_ok h2).1
  obtain ⟨f1, f2⟩ := limN_ok hl
  unfold diffN diffX
  rw [if_pos e, if_pos e, if_pos (playX_len x p).symm, if_pos (playX_len x p).symm, f1, f2, diff_done h, edit_read]
  exact ⟨rfl, rfl⟩
theorem merge_three {p : List Lin} {x y : List Edt} (hx : errX p x = 0) (hy : errX p y = 0) (hc : y.any (clashE (readE x)) = false) :
    threeI p (playX p x) (playX p y) p.length = [] ∧ playX p (editE (thenE x y)) = threeP p (playX p x) (playX p y) p.length := by
  obtain ⟨x1, x2, x3⟩ := errX_ok hx
  obtain ⟨y1, y2, y3⟩ := errX_ok hy
  have ax := validX_asc x2
  have ay := validX_asc y2
  have key : ∀ i : Nat, i < p.length → threeC p (playX p x) (playX p y) i = false ∧ (match thnF x y i with | some l => l | none => p.getD i tL.dflt) = threeL p (playX p x) (playX p y) i := by
    intro i hi
    have h1 := play_look x p i tL.dflt ax x3 hi
    have h2 := play_look y p i tL.dflt ay y3 hi
    unfold threeC threeL thnF
    rw [h1, h2]
    cases e1 : lookE (readE x) i with
    | none =>
      cases e2 : lookE (readE y) i with
      | none => simp
      | some m =>
        by_cases g : m = p.getD i tL.dflt
        · simp [g]
        · have g2 : ¬ p.getD i tL.dflt = m := fun e => g e.symm
          constructor
          · simp only [decide_true, Bool.or_true, Bool.not_true]
          · show m = if m = p.getD i tL.dflt ∨ p.getD i tL.dflt = m then p.getD i tL.dflt else if p.getD i tL.dflt = p.getD i tL.dflt then m else p.getD i tL.dflt
            rw [if_neg (fun h => h.elim g g2), if_pos rfl]
    | some l =>
      cases e2 : lookE (readE y) i with
      | none =>
        constructor
        · simp only [decide_true, Bool.true_or, Bool.not_true]
        · show l = if p.getD i tL.dflt = p.getD i tL.dflt ∨ l = p.getD i tL.dflt then l else _
          rw [if_pos (.inl rfl)]
      | some m =>
        have hlm : l = m := by
          apply Classical.byContradiction
          intro g
          have := (clash_iff x2 y2).2 ⟨i, l, m, e1, e2, g⟩
          rw [hc] at this; cases this
        subst hlm
        constructor
        · simp only [decide_true, Bool.or_true, Bool.true_or, Bool.not_true]
        · show l = if l = p.getD i tL.dflt ∨ l = l then l else _
          rw [if_pos (.inr rfl)]
  constructor
  · unfold threeI
    rw [List.map_eq_nil_iff, List.filter_eq_nil_iff]
    intro i hi
    rw [(key i (List.mem_range.1 hi)).1]; simp
  · refine ext_getD tL.dflt (by rw [playX_len, threeP_len]) fun i hi => ?_
    rw [playX_len] at hi
    rw [play_look _ p i _ (by rw [read_edit]; exact then_asc x2) (by rw [inX_read, read_edit]; exact then_bd x2 y2 x3 y3) hi, read_edit, then_look x2 y2]
    refine (key i hi).2.trans ?_
    unfold threeP
    rw [List.getD_eq_getElem?_getD, List.getElem?_map, List.getElem?_range hi]; rfl
abbrev cTopPatches : Con := { A := (.cons (.sl tL) (.cons tTwoT (.cons (.sl tTs) .nil))), R := (.cons .bool .nil), pre := fun x => True, F := fun x => (true, ()) }
def cTopPatches_0 (Λ1 : Prop) (Λ2 : Prop) (p : (List Lin)) (x : TwoT) (l : (List Tst)) (y0 : Bool) : Prop :=
  True ∧ (if ((errX [(1, 0, 3, 0, ())] [(0, (1, 0, 4, 0, ()), ())]) != (0 : Int)) = true then (true = true ∧ (false = y0 ∧ True)) else (True ∧ (if (bif false then true else (((if errX [(1, 0, 3, 0, ())] [(0, (1, 0, 4, 0, ()), ())] = 0 then sizeX [(1, 0, 3, 0, ())] [(0, (1, 0, 4, 0, ()), ())] else 0)) != (1 : Int))) = true then (false = y0 ∧ True) else (True ∧ (if (decide (p.length > 100) || decide (x.1.length > 100)) = true then (true = true ∧ (true = true ∧ (true = y0 ∧ True))) else (True ∧ (True ∧ (if (bif false then true else (decide (p.length > 100) || decide (x.2.1.length > 100))) = true then (true = true ∧ (true = y0 ∧ True)) else (True ∧ (True ∧ (if (bif false then true else (decide (l.length > 50) || l.any (fun t' => decide (50 < t'.1.length)))) = true then (true = y0 ∧ True) else (True ∧ (if ((errX p x.1) != (0 : Int)) = true then (True ∧ (if ((errX p x.1) == (errX p x.1)) = true then (True ∧ (if (bif true then (((if errX p x.1 = 0 then sizeX p x.1 else 0)) == (0 : Int)) else false) = true then (True ∧ ((bif true then ((List.length ((if errX p x.1 = 0 then playX p x.1 else [])) : Int) == (0 : Int)) else false) = y0 ∧ True)) else (false = false ∧ (false = y0 ∧ True)))) else (false = false ∧ (false = false ∧ (false = y0 ∧ True))))) else (True ∧ (True ∧ (True ∧ (True ∧ (if ((errX p x.1) != (0 : Int)) = true then (true = true ∧ (true = true ∧ (true = true ∧ (true = true ∧ (true = true ∧ (false = y0 ∧ True)))))) else (True ∧ (if (bif false then true else ((errX ((if errX p x.1 = 0 then playX p x.1 else [])) ((if errX p x.1 = 0 then invX p x.1 else []))) != (0 : Int))) = true then (true = true ∧ (true = true ∧ (true = true ∧ (true = true ∧ (false = y0 ∧ True))))) else (((if errX ((if errX p x.1 = 0 then playX p x.1 else [])) ((if errX p x.1 = 0 then invX p x.1 else [])) = 0 then playX ((if errX p x.1 = 0 then playX p x.1 else [])) ((if errX p x.1 = 0 then invX p x.1 else [])) else [])).length ≤ 1000000 ∧ (True ∧ (if (bif false then true else (!(decide (((if errX ((if errX p x.1 = 0 then playX p x.1 else [])) ((if errX p x.1 = 0 then invX p x.1 else [])) = 0 then playX ((if errX p x.1 = 0 then playX p x.1 else [])) ((if errX p x.1 = 0 then invX p x.1 else [])) else [])) = p)))) = true then (true = true ∧ (true = true ∧ (true = true ∧ (false = y0 ∧ True)))) else (True ∧ (if (bif false then true else ((errX p x.1) != (0 : Int))) = true then (true = true ∧ (true = true ∧ (false = y0 ∧ True))) else (True ∧ (if (bif false then true else ((diffN p ((if errX p x.1 = 0 then playX p x.1 else []))) != (0 : Int))) = true then (true = true ∧ (false = y0 ∧ True)) else ((diffX p ((if errX p x.1 = 0 then playX p x.1 else []))).length ≤ 1000000 ∧ (True ∧ (if (bif false then true else (!(decide ((diffX p ((if errX p x.1 = 0 then playX p x.1 else []))) = ((if errX p x.1 = 0 then cleanX p x.1 else [])))))) = true then (false = y0 ∧ True) else (True ∧ (if ((errX p x.2.1) != (0 : Int)) = true then (true = y0 ∧ True) else (True ∧ (True ∧ (True ∧ (if ((threeN p ((if errX p x.1 = 0 then playX p x.1 else [])) ((if errX p x.2.1 = 0 then playX p x.2.1 else []))) != (0 : Int)) = true then (true = true ∧ (false = y0 ∧ True)) else (if ((mergeN x.1 x.2.1) == (0 : Int)) = true then (True ∧ (True ∧ (if (bif false then true else (bif true then (((if bothX x.1 x.2.1 = 0 then limN (thenE x.1 x.2.1) else bothX x.1 x.2.1)) != (0 : Int)) else false)) = true then (false = y0 ∧ True) else (if (((if bothX x.1 x.2.1 = 0 then limN (thenE x.1 x.2.1) else bothX x.1 x.2.1)) == (0 : Int)) = true then (True ∧ (True ∧ (if ((errX p ((if bothX x.1 x.2.1 = 0 then limE (thenE x.1 x.2.1) else []))) != (0 : Int)) = true then (true = true ∧ (true = true ∧ (false = y0 ∧ True))) else (True ∧ (if (bif false then true else ((errX ((if errX p x.1 = 0 then playX p x.1 else [])) x.2.1) != (0 : Int))) = true then (true = true ∧ (false = y0 ∧ True)) else (((if errX p ((if bothX x.1 x.2.1 = 0 then limE (thenE x.1 x.2.1) else [])) = 0 then playX p ((if bothX x.1 x.2.1 = 0 then limE (thenE x.1 x.2.1) else [])) else [])).length ≤ 1000000 ∧ (True ∧ (if (bif false then true else (!(decide (((if errX p ((if bothX x.1 x.2.1 = 0 then limE (thenE x.1 x.2.1) else [])) = 0 then playX p ((if bothX x.1 x.2.1 = 0 then limE (thenE x.1 x.2.1) else [])) else [])) = ((if errX ((if errX p x.1 = 0 then playX p x.1 else [])) x.2.1 = 0 then playX ((if errX p x.1 = 0 then playX p x.1 else [])) x.2.1 else [])))))) = true then (false = y0 ∧ True) else Λ1 )))))))) else Λ1 )))) else (false = false ∧ (True ∧ (if (bif false then true else false) = true then (false = y0 ∧ True) else (if (((if bothX x.1 x.2.1 = 0 then limN (thenE x.1 x.2.1) else bothX x.1 x.2.1)) == (0 : Int)) = true then (True ∧ (True ∧ (if ((errX p ((if bothX x.1 x.2.1 = 0 then limE (thenE x.1 x.2.1) else []))) != (0 : Int)) = true then (true = true ∧ (true = true ∧ (false = y0 ∧ True))) else (True ∧ (if (bif false then true else ((errX ((if errX p x.1 = 0 then playX p x.1 else [])) x.2.1) != (0 : Int))) = true then (true = true ∧ (false = y0 ∧ True)) else (((if errX p ((if bothX x.1 x.2.1 = 0 then limE (thenE x.1 x.2.1) else [])) = 0 then playX p ((if bothX x.1 x.2.1 = 0 then limE (thenE x.1 x.2.1) else [])) else [])).length ≤ 1000000 ∧ (True ∧ (if (bif false then true else (!(decide (((if errX p ((if bothX x.1 x.2.1 = 0 then limE (thenE x.1 x.2.1) else [])) = 0 then playX p ((if bothX x.1 x.2.1 = 0 then limE (thenE x.1 x.2.1) else [])) else [])) = ((if errX ((if errX p x.1 = 0 then playX p x.1 else [])) x.2.1 = 0 then playX ((if errX p x.1 = 0 then playX p x.1 else [])) x.2.1 else [])))))) = true then (false = y0 ∧ True) else Λ1 )))))))) else Λ1 )))))))))))))))))))))))))))))))))))))))))
def cTopPatches_1 (Λ1 : Prop) (Λ2 : Prop) (p : (List Lin)) (x : TwoT) (l : (List Tst)) (y0 : Bool)   : Prop :=
  if ((mergeN x.1 x.2.1) == (0 : Int)) = true then (True ∧ (if ((errX p (mergeX x.1 x.2.1)) != (0 : Int)) = true then (true = true ∧ (true = true ∧ (false = y0 ∧ True))) else (True ∧ (if (bif false then true else ((List.length ((if threeN p ((if errX p x.1 = 0 then playX p x.1 else [])) ((if errX p x.2.1 = 0 then playX p x.2.1 else [])) = 0 then threeI p ((if errX p x.1 = 0 then playX p x.1 else [])) ((if errX p x.2.1 = 0 then playX p x.2.1 else [])) p.length else [])) : Int) != (0 : Int))) = true then (true = true ∧ (false = y0 ∧ True)) else (((if errX p (mergeX x.1 x.2.1) = 0 then playX p (mergeX x.1 x.2.1) else [])).length ≤ 1000000 ∧ (True ∧ (if (bif false then true else (!(decide (((if errX p (mergeX x.1 x.2.1) = 0 then playX p (mergeX x.1 x.2.1) else [])) = ((if threeN p ((if errX p x.1 = 0 then playX p x.1 else [])) ((if errX p x.2.1 = 0 then playX p x.2.1 else [])) = 0 then threeP p ((if errX p x.1 = 0 then playX p x.1 else [])) ((if errX p x.2.1 = 0 then playX p x.2.1 else [])) p.length else [])))))) = true then (false = y0 ∧ True) else Λ2 ))))))) else Λ2
def cTopPatches_2 (Λ1 : Prop) (Λ2 : Prop) (p : (List Lin)) (x : TwoT) (l : (List Tst)) (y0 : Bool)   : Prop :=
  True ∧ (if ((errXT p x.1 l) != (0 : Int)) = true then ((!((errXT p x.1 l == 0 && goodX p x.1 l))) = y0 ∧ True) else (True ∧ (True ∧ (True ∧ (True ∧ (if ((errT [((if errX p x.1 = 0 then playX p x.1 else []))] l) != (0 : Int)) = true then (true = true ∧ (true = true ∧ (true = true ∧ (true = true ∧ (true = true ∧ (false = y0 ∧ True)))))) else (True ∧ (if (bif false then true else ((errXT p x.1 l) != (0 : Int))) = true then (true = true ∧ (true = true ∧ (true = true ∧ (true = true ∧ (false = y0 ∧ True))))) else (True ∧ (if (bif false then true else ((errXT p x.1 l) != (0 : Int))) = true then (true = true ∧ (true = true ∧ (true = true ∧ (false = y0 ∧ True)))) else (True ∧ (if (bif false then true else ((errT [p] l) != (0 : Int))) = true then (true = true ∧ (true = true ∧ (false = y0 ∧ True))) else (True ∧ (if (bif false then true else (!(((errXT p x.1 l == 0 && goodX p x.1 l)) == ((List.length ((if errT [((if errX p x.1 = 0 then playX p x.1 else []))] l = 0 then failL ((if errX p x.1 = 0 then playX p x.1 else [])) l else [])) : Int) == (0 : Int))))) = true then (true = true ∧ (false = y0 ∧ True)) else (inI ((List.length ((if errT [p] l = 0 then failL p l else [])) : Int) - (List.length ((if errXT p x.1 l = 0 then turnedL p (playX p x.1) l else [])) : Int)) ∧ (inI (((List.length ((if errT [p] l = 0 then failL p l else [])) : Int) - (List.length ((if errXT p x.1 l = 0 then turnedL p (playX p x.1) l else [])) : Int)) + (List.length ((if errXT p x.1 l = 0 then turnedL (playX p x.1) p l else [])) : Int)) ∧ (True ∧ (if (bif false then true else ((List.length ((if errT [((if errX p x.1 = 0 then playX p x.1 else []))] l = 0 then failL ((if errX p x.1 = 0 then playX p x.1 else [])) l else [])) : Int) != (((List.length ((if errT [p] l = 0 then failL p l else [])) : Int) - (List.length ((if errXT p x.1 l = 0 then turnedL p (playX p x.1) l else [])) : Int)) + (List.length ((if errXT p x.1 l = 0 then turnedL (playX p x.1) p l else [])) : Int)))) = true then (false = y0 ∧ True) else (if (!((errXT p x.1 l == 0 && goodX p x.1 l))) = true then (true = y0 ∧ True) else (True ∧ (True ∧ (True ∧ (True ∧ (if ((redN p x.1 l) == (0 : Int)) = true then (True ∧ (if (bif true then ((errXT p ((if redN p x.1 l = 0 then redX p x.1 l else [])) l) == (0 : Int)) else false) = true then (True ∧ (if (bif true then ((errXT p ((if redN p x.1 l = 0 then redX p x.1 l else [])) l == 0 && goodX p ((if redN p x.1 l = 0 then redX p x.1 l else [])) l)) else false) = true then (True ∧ (if (bif true then ((errXT p x.1 l) == (0 : Int)) else false) = true then (True ∧ (if (bif true then ((errXT p x.1 l == 0 && smallB p x.1 l)) else false) = true then (True ∧ (if (bif true then ((errXT p ((if errXT p x.1 l = 0 then smallX p x.1 l else [])) l) == (0 : Int)) else false) = true then (True ∧ (if (bif true then ((errXT p ((if errXT p x.1 l = 0 then smallX p x.1 l else [])) l == 0 && minimB p ((if errXT p x.1 l = 0 then smallX p x.1 l else [])) l)) else false) = true then (True ∧ (if (bif true then (decide ((List.length ((if errXT p x.1 l = 0 then smallX p x.1 l else [])) : Int) ≤ (List.length ((if redN p x.1 l = 0 then redX p x.1 l else [])) : Int))) else false) = true then (True ∧ ((bif true then (decide ((List.length ((if redN p x.1 l = 0 then redX p x.1 l else [])) : Int) ≤ (List.length x.1 : Int))) else false) = y0 ∧ True)) else (false = false ∧ (false = y0 ∧ True)))) else (false = false ∧ (false = false ∧ (false = y0 ∧ True))))) else (false = false ∧ (false = false ∧ (false = false ∧ (false = y0 ∧ True)))))) else (false = false ∧ (false = false ∧ (false = false ∧ (false = false ∧ (false = y0 ∧ True))))))) else (false = false ∧ (false = false ∧ (false = false ∧ (false = false ∧ (false = false ∧ (false = y0 ∧ True)))))))) else (false = false ∧ (false = false ∧ (false = false ∧ (false = false ∧ (false = false ∧ (false = false ∧ (false = y0 ∧ True))))))))) else (false = false ∧ (false = false ∧ (false = false ∧ (false = false ∧ (false = false ∧ (false = false ∧ (false = false ∧ (false = y0 ∧ True)))))))))) else (false = false ∧ (false = false ∧ (false = false ∧ (false = false ∧ (false = false ∧ (false = false ∧ (false = false ∧ (false = false ∧ (false = y0 ∧ True)))))))))))))))))))))))))))))))))
theorem cTopPatches_law (h : ∀ (p : (List Lin)) (x : TwoT) (l : (List Tst)), cTopPatches.A.wf (p, x, l, ()) → ∀ (Λ1 : Prop) (Λ2 : Prop), (cTopPatches_1 Λ1 Λ2 p x l true → Λ1) → (cTopPatches_2 Λ1 Λ2 p x l true → Λ2) → cTopPatches_0 Λ1 Λ2 p x l true) : ConOK Go.Proofs.Tryz.prog 3 cTopPatches := by
  refine lawL (Γ := [(19, cBreaks), (9, cClean), (10, cDiff4), (7, cDoE), (17, cFailingO), (18, cFixes), (8, cInv), (16, cIsGood), (22, cIsMin), (5, cLong4), (6, cMany4), (13, cMerge4), (20, cReduce), (11, cSameL4), (12, cSameR), (4, cSize4), (21, cSmallest), (14, cThen4), (15, cThree)]) (Θ := Th) (n := 386) [([1, 1, 1, 1, 1, 1, 1, 1, 1, 1, 1, 1, 1, 1, 1, 1, 1, 2], ⟨[(0, false), (2, false), (4, true), (8, true), (9, true), (20, true), (22, true), (23, true)], [(4, false), (74, true), (164, true), (179, true)]⟩), ([1, 1, 1, 1, 1, 1, 1, 1, 1, 1, 1, 1, 1, 1, 1, 1, 1, 1, 2], ⟨[(0, false), (2, false), (4, true), (9, true)], [(4, false), (74, true)]⟩)] ⟨cBreaks_ok, cClean_ok, cDiff4_ok, cDoE_ok, cFailingO_ok, cFixes_ok, cInv_ok, cIsGood_ok, cIsMin_ok, cLong4_ok, cMany4_ok, cMerge4_ok, cReduce_ok, cSameL4_ok, cSameR_ok, cSize4_ok, cSmallest_ok, cThen4_ok, cThree_ok, trivial⟩ (by kernel_rfl) th_ok mix_ok Go.Proofs.Tryz.func3 (by kernel_rfl) ?_
  intro x hw hp Λ hC
  have h0 := h x.1 x.2.1 x.2.2.1 hw (Λ [1, 1, 1, 1, 1, 1, 1, 1, 1, 1, 1, 1, 1, 1, 1, 1, 1, 2] ([(0, .d false (.sl tL) x.1), (2, .d false (.sl tTs) x.2.2.1), (4, .ptr 4 0 []), (8, .d true .int (mergeN x.2.1.1 x.2.1.2.1)), (9, .own 74 0), (20, .own 164 0), (22, .own 179 0), (23, .d true (.sl .int) ((if threeN x.1 ((if errX x.1 x.2.1.1 = 0 then playX x.1 x.2.1.1 else [])) ((if errX x.1 x.2.1.2.1 = 0 then playX x.1 x.2.1.2.1 else [])) = 0 then threeI x.1 ((if errX x.1 x.2.1.1 = 0 then playX x.1 x.2.1.1 else [])) ((if errX x.1 x.2.1.2.1 = 0 then playX x.1 x.2.1.2.1 else [])) x.1.length else [])))], [(4, .box false tTwoT x.2.1), (74, .sl true tL ((if errX x.1 x.2.1.1 = 0 then playX x.1 x.2.1.1 else []))), (164, .sl true tEd (mergeX x.2.1.1 x.2.1.2.1)), (179, .sl true tL ((if threeN x.1 ((if errX x.1 x.2.1.1 = 0 then playX x.1 x.2.1.1 else [])) ((if errX x.1 x.2.1.2.1 = 0 then playX x.1 x.2.1.2.1 else [])) = 0 then threeP x.1 ((if errX x.1 x.2.1.1 = 0 then playX x.1 x.2.1.1 else [])) ((if errX x.1 x.2.1.2.1 = 0 then playX x.1 x.2.1.2.1 else [])) x.1.length else [])))])) (Λ [1, 1, 1, 1, 1, 1, 1, 1, 1, 1, 1, 1, 1, 1, 1, 1, 1, 1, 2] ([(0, .d false (.sl tL) x.1), (2, .d false (.sl tTs) x.2.2.1), (4, .ptr 4 0 []), (9, .own 74 0)], [(4, .box false tTwoT x.2.1), (74, .sl true tL ((if errX x.1 x.2.1.1 = 0 then playX x.1 x.2.1.1 else [])))])) (fun  hb => hC [1, 1, 1, 1, 1, 1, 1, 1, 1, 1, 1, 1, 1, 1, 1, 1, 1, 2] ([(0, .d false (.sl tL) x.1), (2, .d false (.sl tTs) x.2.2.1), (4, .ptr 4 0 []), (8, .d true .int (mergeN x.2.1.1 x.2.1.2.1)), (9, .own 74 0), (20, .own 164 0), (22, .own 179 0), (23, .d true (.sl .int) ((if threeN x.1 ((if errX x.1 x.2.1.1 = 0 then playX x.1 x.2.1.1 else [])) ((if errX x.1 x.2.1.2.1 = 0 then playX x.1 x.2.1.2.1 else [])) = 0 then threeI x.1 ((if errX x.1 x.2.1.1 = 0 then playX x.1 x.2.1.1 else [])) ((if errX x.1 x.2.1.2.1 = 0 then playX x.1 x.2.1.2.1 else [])) x.1.length else [])))], [(4, .box false tTwoT x.2.1), (74, .sl true tL ((if errX x.1 x.2.1.1 = 0 then playX x.1 x.2.1.1 else []))), (164, .sl true tEd (mergeX x.2.1.1 x.2.1.2.1)), (179, .sl true tL ((if threeN x.1 ((if errX x.1 x.2.1.1 = 0 then playX x.1 x.2.1.1 else [])) ((if errX x.1 x.2.1.2.1 = 0 then playX x.1 x.2.1.2.1 else [])) = 0 then threeP x.1 ((if errX x.1 x.2.1.1 = 0 then playX x.1 x.2.1.1 else [])) ((if errX x.1 x.2.1.2.1 = 0 then playX x.1 x.2.1.2.1 else [])) x.1.length else [])))]) (Eq.mpr (by kernel_rfl) hb)) (fun  hb => hC [1, 1, 1, 1, 1, 1, 1, 1, 1, 1, 1, 1, 1, 1, 1, 1, 1, 1, 2] ([(0, .d false (.sl tL) x.1), (2, .d false (.sl tTs) x.2.2.1), (4, .ptr 4 0 []), (9, .own 74 0)], [(4, .box false tTwoT x.2.1), (74, .sl true tL ((if errX x.1 x.2.1.1 = 0 then playX x.1 x.2.1.1 else [])))]) (Eq.mpr (by kernel_rfl) hb))
  exact Eq.mpr (by kernel_rfl) h0
theorem cTopPatches_ok : ConOK Go.Proofs.Tryz.prog 3 cTopPatches := by
  refine cTopPatches_law ?_
  intro p x l hw Λ1 Λ2 h1 h2
  unfold cTopPatches_0
  obtain ⟨a, b, u⟩ := x
  have hlen : a.length ≤ 100 → p.length ≤ 100 → errX p a = 0 → Λ2 := by
    intro c2 c1 ea
    apply h2; unfold cTopPatches_2
    dsimp only
    refine ⟨trivial, ?_⟩
    by_cases h : errXT p a l = 0
    · obtain ⟨g1, g2, g3, g4⟩ := errXT_ok h
      have f1 := errT_one g1 g3
      have f2 := errT_one (errX_play ea) g3
      have f3 := fail_count p (playX p a) l
      have l8 := (validT_ok g3).1
      have l1 := turned_len p (playX p a) l
      have l2 := turned_len (playX p a) p l
      have l3 : (failL p l).length ≤ l.length := whereL_len _ _
      have i1 : inI (((failL p l).length : Int) - (turnedL p (playX p a) l).length) := by unfold inI; omega
      have i2 : inI ((((failL p l).length : Int) - (turnedL p (playX p a) l).length) + (turnedL (playX p a) p l).length) := by unfold inI; omega
      have f4 : (((failL (playX p a) l).length : Int) == 0) = goodX p a l := by
        unfold goodX
        cases failL (playX p a) l with
        | nil => rfl
        | cons s t => rw [List.length_cons]; show _ = false; rw [beq_eq_false_iff_ne]; omega
      rw [if_neg (by simp [h])]
      refine ⟨trivial, trivial, trivial, trivial, ?_⟩
      rw [if_neg (by simp [ea, f2])]
      refine ⟨trivial, ?_⟩
      rw [if_neg (by simp [h])]
      refine ⟨trivial, ?_⟩
      rw [if_neg (by simp [h])]
      refine ⟨trivial, ?_⟩
      rw [if_neg (by simp [f1])]
      refine ⟨trivial, ?_⟩
      simp only [h, ea, f1, f2, if_true, f4, beq_self_eq_true, Bool.true_and]
      rw [if_neg (by simp)]
      refine ⟨i1, i2, trivial, ?_⟩
      rw [if_neg (by rw [f3]; simp)]
      cases g : goodX p a l
      · simp
      · have hN : redN p a l = 0 := by unfold redN; rw [if_pos h, g]; rfl
        obtain ⟨r1, r2⟩ := redX_ok g
        have r3 := errXT_sub h r1
        have s1 := small_has r1 r2
        obtain ⟨t1, t2, t3⟩ := small_good s1
        have t4 := errXT_sub h t1
        have t5 := small_minimal s1
        have t6 := t3 _ r1 r2
        have t7 := r1.length_le
        simp [hN, h, r2, r3, s1, t4, t5, t6, t7]
    · simp [h]
  have hmid : a.length ≤ 100 → p.length ≤ 100 → errX p a = 0 → errX p b = 0 → Λ1 := by
    intro c2 c1 ea eb
    have hl := hlen c2 c1 ea
    apply h1; unfold cTopPatches_1
    dsimp only
    by_cases m : mergeN a b = 0
    · obtain ⟨m1, m2, m3, m4, m5⟩ := merge_ok m
      obtain ⟨x1, x2, x3⟩ := errX_ok ea
      obtain ⟨y1, y2, y3⟩ := errX_ok eb
      have f1 := then_err x1 m1 m2 x3 y3 m4
      obtain ⟨f2, f3⟩ := merge_three ea eb m3
      have f4 : threeN p (playX p a) (playX p b) = 0 := three_mk x1 (errX_play ea) (errX_play eb) (playX_len _ _) (playX_len _ _)
      have f5 : (threeP p (playX p a) (playX p b) p.length).length ≤ 1000000 := by rw [threeP_len]; omega
      simp [m, m5, ea, eb, f1, f2, f3, f4, f5, hl]
    · simp [m, hl]
  dsimp only
  refine ⟨trivial, ?_⟩
  rw [if_neg (by decide +kernel)]
  refine ⟨trivial, ?_⟩
  rw [if_neg (by decide +kernel)]
  refine ⟨trivial, ?_⟩
  cases c : (decide (p.length > 100) || decide (a.length > 100))
  · obtain ⟨c1, c2⟩ := long_false c
    rw [if_neg (by simp)]
    refine ⟨trivial, trivial, ?_⟩
    cases c' : (decide (p.length > 100) || decide (b.length > 100))
    · obtain ⟨_, c3⟩ := long_false c'
      rw [if_neg (by simp)]
      refine ⟨trivial, trivial, ?_⟩
      cases d : (decide (l.length > 50) || l.any (fun t' => decide (50 < t'.1.length)))
      · rw [if_neg (by simp)]
        refine ⟨trivial, ?_⟩
        by_cases ea : errX p a = 0
        · have f1 := inv_errX ea
          have f2 := undo_play ea
          obtain ⟨f3, f4⟩ := diff_self ea
          have f5 : (cleanX p a).length ≤ 1000000 := by have := (clean_sub p a).length_le; omega
          have f6 : p.length ≤ 1000000 := by omega
          by_cases eb : errX p b = 0
          · obtain ⟨x1, x2, x3⟩ := errX_ok ea
            obtain ⟨y1, y2, y3⟩ := errX_ok eb
            have hl := hmid c2 c1 ea eb
            have g0 := both_of x2 y2
            have g1 : threeN p (playX p a) (playX p b) = 0 := three_mk x1 (errX_play ea) (errX_play eb) (playX_len _ _) (playX_len _ _)
            have g2 : errX (playX p a) b = 0 := errX_mk (errX_play ea) y2 (by rw [playX_len]; exact y3)
            by_cases hn : limN (thenE a b) = 0
            · obtain ⟨_, k1⟩ := limN_ok (limN_iff hn)
              have k2 := then_err x1 x2 y2 x3 y3 (limN_iff hn)
              have k3 := then_play (p := p) x2 y2 x3 y3
              have k4 : (playX (playX p a) b).length ≤ 1000000 := by rw [playX_len, playX_len]; omega
              by_cases m : mergeN a b = 0
              · simp [ea, eb, f1, f2, f3, f4, f5, f6, g0, g1, g2, hn, k1, k2, k3, k4, m, hl]
              · simp [ea, eb, f1, f2, f3, f4, f5, f6, g0, g1, g2, hn, k1, k2, k3, k4, m, hl]
            · have m : ¬ mergeN a b = 0 := fun m => hn (limN_ok (merge_ok m).2.2.2.1).1
              simp [ea, eb, f1, f2, f3, f4, f5, f6, g0, g1, g2, hn, m, hl]
          · simp [ea, eb, f1, f2, f3, f4, f5, f6]
        · simp [ea]
      · simp
    · simp
  · rw [if_pos rfl]; exact ⟨rfl, rfl, rfl, trivial⟩
end Go.Tk
