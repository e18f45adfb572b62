/-
  What falls in a tick: one step of the two loops.
-/
import Derived.Test.YtdjllbkfbmdlfaaT2
namespace Go.Proofs.Ytdjllbkfbmdlfaa
open Go Go.AE
set_option maxRecDepth 100000
set_option linter.unusedSimpArgs false
variable {R h : H}
theorem zc_col : Col zc (fun _ => 0) (airAt 0 0 0) 0 0 := stl_col 0 0 (by decide) (by decide +kernel) 0 (by omega)
section
variable {l : List Value} {d a : Nat → Nat} {g : Nat} {t : Int}
theorem call98 (hl : Col l d a g t) : EF (trFn Try.prog) R 98 [.agg l.toArray] h = some (.tuple #[.agg (if colB d a g t then l else zc).toArray, .int .i64 (if colB d a g t then 0 else 4)], h, h.length, h.length) := by
  rw [EF_go tr98 rfl]
  have hc := call27 (R := R) (h := hp h [l, zc]) hl
  have hz : List.replicate 177 (Value.float .f32 0) ++ [Value.int .i64 0] = zc := rfl
  have q1 := zc_col.all one (fun _ => rfl) rfl
  have q2 := zc_col.all free1 (fun _ => rfl) rfl
  have q3 := hl.all one (fun _ => rfl) rfl
  have q4 := hl.all free1 (fun _ => rfl) rfl
  have s1 : splice zc 0 zc = zc := splice_all zc_len zc_len
  have s2 : splice zc 0 l = l := splice_all hl.len zc_len
  have t1 := take_all zc_len
  have t2 := take_all hl.len
  cases h1 : colB d a g t <;> simp only [hz, zc_len, hl.len, hc, h1, q1, q2, q3, q4, s1, s2, t1, t2, EC_skip, EC_ops, EC_seq, nextC_nrm, nextC_ret, nextC_brk, EC_cond, condC_true, condC_false, condC_bool, EC_block, blockC_nrm, blockC_ret, blockC_brk, EC_exit, EC_ret, endF_nrm, endF_ret, evO_nil, evO_cons, evO_consG, gokV_undef, gokV_t, gokV_f, stepO_mk, stepO_mkN, put_mk, put_none, upd_at, fr0_at, av_tmp, av_const, av_func, op_mov, op_pick, pickV_bool, op_alloc, op_box, boxV_list, boxV_int, boxV_float, boxV_bool, boxV_ptr, boxV_slice, op_build, op_bslice, fillL_nil, fillL_cons, op_load, ldV_one, ldV_agg, op_store, stV_mk, op_nilck, nilV_ptr, op_bin, op_eqb, eqbV_bool, op_un, unV_not, op_conv, op_fieldA, fldV_ptr, op_idxA, op_idxS, op_extract, extrV_tuple, op_len, lenV_slice, op_call, backF_mk, bi_cmp_eql, bi_cmp_neq, bi_cmp_lss, bi_cmp_leq, bi_cmp_gtr, bi_cmp_geq, bi_add, bi_sub, bi_mul, bf_add, bf_sub, bf_mul, bf_quo, bf_eql, bf_neq, bf_lss, bf_leq, bf_gtr, bf_geq, hp_push, hp_hp, hp_len, hp_take, blk_own, blk_own0, wr_own, wr_own0, min_own, rd_def, finish_own, resL_nil, resL_cons, resV_tmp, resV_cell, oneOrTuple_one, oneOrTuple_two, oneOrTuple_nil, oneOrTuple_three, ob_some, om_some, ob_none, om_none, List.length_cons, List.length_nil, List.cons_append, List.nil_append, List.getElem?_cons_zero, List.getElem?_cons_succ, List.getD_cons_zero, List.getD_cons_succ, List.map_cons, List.map_nil, Nat.zero_add, Nat.add_zero, Nat.reduceAdd, Nat.reduceMul, Nat.reduceLT, Nat.reduceEqDiff, Nat.reduceLeDiff, ↓reduceIte, cellsL_bool, cellsL_int, cellsL_float, cellsL_str, cellsL_ptr, cellsL_slice, cellsL_agg, List.all_cons, List.all_nil, one_bool, one_int, one_float, one_str, one_ptr, one_slice, free1_bool, free1_int, free1_float, free0_bool, free0_int, free0_float, free0_agg, vfree_bool, vfree_int, vfree_float, vfree_agg, vfree_tuple, noTup, Bool.and_true, Bool.true_and, and_self, true_and, and_true, reduceCtorEq, Nat.min_self, List.drop_zero, List.set_cons_zero, List.set_cons_succ, Bool.not_true, Bool.not_false, beq_self_eq_true, Bool.false_eq_true, Bool.false_and, Bool.and_false, eq_self, Nat.add_assoc, idxSV_int, idxAV_int, Int.reduceToNat, Int.reduceLE, Int.reduceLT, Bool.or_true, Bool.true_or, Bool.or_false, Bool.false_or, decide_true, decide_false, Int.reduceEq, Int.reduceBEq, Int.reduceBNe, Int.reduceAdd, Int.reduceSub, loopC_nrm, loopC_ret, loopC_brk, wrap_lit, EC_draw, quietC_eq, Nat.le_refl, Nat.le_add_right, Int.cast_ofNat_Int, nat_nn, nat_tn]
theorem call102 {b : Nat} (hb : h[b]? = some l) (hl : Col l d a g t) : EF (trFn Try.prog) R 102 [.pointer (some ⟨b, 0, none⟩)] h = some (.tuple #[.agg (if colB d a g t then l else zc).toArray, .int .i64 (if colB d a g t then 0 else 4)], h, h.length, h.length) := by
  rw [EF_go tr102 rfl]
  have hb2 : (hp h [zc])[b]? = some l := by
    obtain ⟨h1, h2⟩ := List.getElem?_eq_some_iff.1 hb
    unfold hp
    rw [List.getElem?_append_left h1]; exact hb
  have hc := call60 (R := R) (h := hp h [zc]) hb2 hl
  have hz : List.replicate 177 (Value.float .f32 0) ++ [Value.int .i64 0] = zc := rfl
  have q1 := zc_col.all one (fun _ => rfl) rfl
  have q2 := zc_col.all free1 (fun _ => rfl) rfl
  have q3 := hl.all one (fun _ => rfl) rfl
  have q4 := hl.all free1 (fun _ => rfl) rfl
  have s1 : splice zc 0 zc = zc := splice_all zc_len zc_len
  have s2 : splice zc 0 l = l := splice_all hl.len zc_len
  have t1 := take_all zc_len
  have t2 := take_all hl.len
  cases h1 : colB d a g t <;> simp only [hz, zc_len, hl.len, blk_old hb, hc, h1, q1, q2, q3, q4, s1, s2, t1, t2, EC_skip, EC_ops, EC_seq, nextC_nrm, nextC_ret, nextC_brk, EC_cond, condC_true, condC_false, condC_bool, EC_block, blockC_nrm, blockC_ret, blockC_brk, EC_exit, EC_ret, endF_nrm, endF_ret, evO_nil, evO_cons, evO_consG, gokV_undef, gokV_t, gokV_f, stepO_mk, stepO_mkN, put_mk, put_none, upd_at, fr0_at, av_tmp, av_const, av_func, op_mov, op_pick, pickV_bool, op_alloc, op_box, boxV_list, boxV_int, boxV_float, boxV_bool, boxV_ptr, boxV_slice, op_build, op_bslice, fillL_nil, fillL_cons, op_load, ldV_one, ldV_agg, op_store, stV_mk, op_nilck, nilV_ptr, op_bin, op_eqb, eqbV_bool, op_un, unV_not, op_conv, op_fieldA, fldV_ptr, op_idxA, op_idxS, op_extract, extrV_tuple, op_len, lenV_slice, op_call, backF_mk, bi_cmp_eql, bi_cmp_neq, bi_cmp_lss, bi_cmp_leq, bi_cmp_gtr, bi_cmp_geq, bi_add, bi_sub, bi_mul, bf_add, bf_sub, bf_mul, bf_quo, bf_eql, bf_neq, bf_lss, bf_leq, bf_gtr, bf_geq, hp_push, hp_hp, hp_len, hp_take, blk_own, blk_own0, wr_own, wr_own0, min_own, rd_def, finish_own, resL_nil, resL_cons, resV_tmp, resV_cell, oneOrTuple_one, oneOrTuple_two, oneOrTuple_nil, oneOrTuple_three, ob_some, om_some, ob_none, om_none, List.length_cons, List.length_nil, List.cons_append, List.nil_append, List.getElem?_cons_zero, List.getElem?_cons_succ, List.getD_cons_zero, List.getD_cons_succ, List.map_cons, List.map_nil, Nat.zero_add, Nat.add_zero, Nat.reduceAdd, Nat.reduceMul, Nat.reduceLT, Nat.reduceEqDiff, Nat.reduceLeDiff, ↓reduceIte, cellsL_bool, cellsL_int, cellsL_float, cellsL_str, cellsL_ptr, cellsL_slice, cellsL_agg, List.all_cons, List.all_nil, one_bool, one_int, one_float, one_str, one_ptr, one_slice, free1_bool, free1_int, free1_float, free0_bool, free0_int, free0_float, free0_agg, vfree_bool, vfree_int, vfree_float, vfree_agg, vfree_tuple, noTup, Bool.and_true, Bool.true_and, and_self, true_and, and_true, reduceCtorEq, Nat.min_self, List.drop_zero, List.set_cons_zero, List.set_cons_succ, Bool.not_true, Bool.not_false, beq_self_eq_true, Bool.false_eq_true, Bool.false_and, Bool.and_false, eq_self, Nat.add_assoc, idxSV_int, idxAV_int, Int.reduceToNat, Int.reduceLE, Int.reduceLT, Bool.or_true, Bool.true_or, Bool.or_false, Bool.false_or, decide_true, decide_false, Int.reduceEq, Int.reduceBEq, Int.reduceBNe, Int.reduceAdd, Int.reduceSub, loopC_nrm, loopC_ret, loopC_brk, wrap_lit, EC_draw, quietC_eq, Nat.le_refl, Nat.le_add_right, Int.cast_ofNat_Int, nat_nn, nat_tn]
/-- What falls of a class out of a cell. -/
def fell (d : Nat → Nat) (i k : Nat) : Nat := far .mul .f32 (shv k) (d (i * 20 + k))
/-- What is left. -/
def left (d : Nat → Nat) (i k : Nat) : Nat := far .sub .f32 (d (i * 20 + k)) (fell d i k)
def stepO1 (d : Nat → Nat) (i k : Nat) (o : List Value) : List Value := splice o (i * 20 + k) [.float .f32 (left d i k)]
def stepL (d : Nat → Nat) : Nat → Nat → List Value → List Value
  | 0, k, o => splice (stepO1 d 0 k o) 176 [.float .f32 (far .add .f32 (fbitsOf o 176) (far .quo .f32 (far .mul .f32 (fell d 0 k) (ms k)) 1199570944))]
  | j + 1, k, o => splice (stepO1 d (j + 1) k o) (j * 20 + k) [.float .f32 (far .add .f32 (fbitsOf o (j * 20 + k)) (fell d (j + 1) k))]
/-- What is kept from step to step. -/
def Inv (d a : Nat → Nat) (t : Int) (i k : Nat) (o : List Value) : Prop := ∃ d' g', Col o d' a g' t ∧ ∀ j, i * 20 + k ≤ j → j < 160 → d' j = d j
theorem Col.set {o : List Value} (hl : Col o d a g t) (j b : Nat) (hj : j < 160) (hb : b < 4294967296) (hc : cn .f32 b = b) : Col (splice o j [.float .f32 b]) (fun i => if i = j then b else d i) a g t := by
  have hle : j + [Value.float .f32 b].length ≤ o.length := by simp [hl.len]; omega
  have hg : ∀ k, (splice o j [Value.float .f32 b])[k]? = if k < j then o[k]? else if k < j + 1 then [Value.float .f32 b][k - j]? else o[k]? := fun k => splice_get hle k
  refine ⟨by rw [splice_length hle]; exact hl.len, fun k hk => ?_, fun k hk => ?_, ?_, ?_⟩
  · rw [Nat.zero_add, hg]
    have h0 := hl.drops k hk
    rw [Nat.zero_add] at h0
    by_cases h1 : k = j
    · subst h1
      rw [if_neg (by omega), if_pos (by omega), Nat.sub_self]
      simp only [if_true]
      exact ⟨rfl, hb, hc⟩
    · simp only [h1, if_false]
      refine ⟨?_, h0.2⟩
      split
      · exact h0.1
      · rw [if_neg (by omega)]; exact h0.1
  · rw [hg, if_neg (by omega), if_neg (by omega)]; exact hl.airs k hk
  · rw [hg, if_neg (by omega), if_neg (by omega)]; exact hl.gauge
  · rw [hg, if_neg (by omega), if_neg (by omega)]; exact hl.ticks
theorem Col.setG {o : List Value} (hl : Col o d a g t) (b : Nat) (hb : b < 4294967296) (hc : cn .f32 b = b) : Col (splice o 176 [.float .f32 b]) d a b t := by
  have hle : 176 + [Value.float .f32 b].length ≤ o.length := by simp [hl.len]
  have hg : ∀ k, (splice o 176 [Value.float .f32 b])[k]? = if k < 176 then o[k]? else if k < 176 + 1 then [Value.float .f32 b][k - 176]? else o[k]? := fun k => splice_get hle k
  refine ⟨by rw [splice_length hle]; exact hl.len, fun k hk => ?_, fun k hk => ?_, ?_, ?_⟩
  · rw [hg, if_pos (by omega)]; exact hl.drops k hk
  · rw [hg, if_pos (by omega)]; exact hl.airs k hk
  · rw [hg, if_neg (by omega), if_pos (by omega)]; exact ⟨rfl, hb, hc⟩
  · rw [hg, if_neg (by omega), if_neg (by omega)]; exact hl.ticks
theorem Inv.step {o : List Value} {i k : Nat} (hi : i < 8) (hk : k < 20) (hv : Inv d a t i k o) : Inv d a t i (k + 1) (stepL d i k o) := by
  obtain ⟨d', g', hl, he⟩ := hv
  cases i with
  | zero =>
    exact ⟨_, _, (hl.set (0 * 20 + k) _ (by omega) (far_lt _ _ _) (far_cn _ _ _)).setG _ (far_lt _ _ _) (far_cn _ _ _), fun j h1 h2 => by
      rw [if_neg (by omega)]; exact he j (by omega) h2⟩
  | succ i =>
    exact ⟨_, _, (hl.set ((i + 1) * 20 + k) _ (by omega) (far_lt _ _ _) (far_cn _ _ _)).set (i * 20 + k) _ (by omega) (far_lt _ _ _) (far_cn _ _ _), fun j h1 h2 => by
      rw [if_neg (by omega), if_neg (by omega)]; exact he j (by omega) h2⟩
theorem fbits_of {o : List Value} {j x : Nat} (h : o[j]? = some (.float .f32 x)) : fbitsOf o j = x := by
  unfold fbitsOf; rw [h]
/-- What the steps read. -/
theorem Inv.reads {o : List Value} {i k : Nat} (hi : i < 8) (hk : k < 20) (hv : Inv d a t i k o) :
    o.length = 178 ∧ (stepO1 d i k o).length = 178 ∧ o[i * 20 + k]? = some (.float .f32 (d (i * 20 + k))) ∧ (stepO1 d i k o)[176]? = some (.float .f32 (fbitsOf o 176)) ∧ (∀ j, i = j + 1 → (stepO1 d i k o)[j * 20 + k]? = some (.float .f32 (fbitsOf o (j * 20 + k)))) := by
  obtain ⟨d', g', hl, he⟩ := hv
  have hle : i * 20 + k + [Value.float .f32 (left d i k)].length ≤ o.length := by simp [hl.len]; omega
  have hg : ∀ j, (stepO1 d i k o)[j]? = if j < i * 20 + k then o[j]? else if j < i * 20 + k + 1 then [Value.float .f32 (left d i k)][j - (i * 20 + k)]? else o[j]? := fun j => splice_get hle j
  refine ⟨hl.len, by unfold stepO1; rw [splice_length hle]; exact hl.len, ?_, ?_, ?_⟩
  · have := (hl.drops (i * 20 + k) (by omega)).1
    rw [Nat.zero_add, he _ (Nat.le_refl _) (by omega)] at this
    exact this
  · rw [hg, if_neg (by omega), if_neg (by omega), hl.gauge.1, fbits_of hl.gauge.1]
  · rintro j rfl
    have := (hl.drops (j * 20 + k) (by omega)).1
    rw [Nat.zero_add] at this
    rw [hg, if_pos (by omega), this, fbits_of this]
def rowL (d : Nat → Nat) (i : Nat) : Nat → Nat → List Value → List Value
  | _, 0, o => o
  | k, n + 1, o => rowL d i (k + 1) n (stepL d i k o)
def allL (d : Nat → Nat) : Nat → Nat → List Value → List Value
  | _, 0, o => o
  | i, n + 1, o => allL d (i + 1) n (rowL d i 0 20 o)
theorem Inv.row {i : Nat} (hi : i < 8) : ∀ (n k : Nat) (o : List Value), k + n = 20 → Inv d a t i k o → Inv d a t i 20 (rowL d i k n o)
  | 0, k, o, hk, hv => by
    have : k = 20 := by omega
    subst this; exact hv
  | n + 1, k, o, hk, hv => Inv.row hi n (k + 1) _ (by omega) (hv.step hi (by omega))
theorem Inv.next {i : Nat} {o : List Value} (hv : Inv d a t i 20 o) : Inv d a t (i + 1) 0 o := by
  obtain ⟨d', g', hl, he⟩ := hv
  exact ⟨d', g', hl, fun j h1 h2 => he j (by omega) h2⟩
theorem Inv.all : ∀ (n i : Nat) (o : List Value), i + n = 8 → Inv d a t i 0 o → Inv d a t 8 0 (allL d i n o)
  | 0, i, o, hi, hv => by
    have : i = 8 := by omega
    subst this; exact hv
  | n + 1, i, o, hi, hv => Inv.all n (i + 1) _ (by omega) (Inv.next (Inv.row (by omega) 20 0 o (by omega) hv))
end
end Go.Proofs.Ytdjllbkfbmdlfaa
