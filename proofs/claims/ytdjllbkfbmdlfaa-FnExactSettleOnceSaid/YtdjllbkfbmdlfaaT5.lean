/-
  What falls in a tick: both of the program's columns are the same.
-/
import Derived.Test.YtdjllbkfbmdlfaaT4
namespace Go.Proofs.Ytdjllbkfbmdlfaa
open Go Go.AE
set_option maxRecDepth 100000
set_option linter.unusedSimpArgs false
variable {R h : H}
/-- What is true of the column after a tick. -/
structure Fin (v : List Value) (e : Int) : Prop where
  col : ∃ d a g t, Col v d a g t
  c98 : ∀ (R h : H), EF (trFn Try.prog) R 98 [.agg v.toArray] h = some (.tuple #[.agg (if e = 0 then v else zc).toArray, .int .i64 e], h, h.length, h.length)
  c102 : ∀ (R h : H) (b : Nat), h[b]? = some v → EF (trFn Try.prog) R 102 [.pointer (some ⟨b, 0, none⟩)] h = some (.tuple #[.agg (if e = 0 then v else zc).toArray, .int .i64 e], h, h.length, h.length)
section
variable {l : List Value} {d a : Nat → Nat} {g : Nat} {t : Int}
theorem fin_of (hl : Col l d a g t) : ∃ e, Fin (allL d 0 8 l) e := by
  obtain ⟨d', g', hc, _⟩ := Inv.all (d := d) (a := a) (t := t) 8 0 l rfl ⟨d, g, hl, fun j _ _ => rfl⟩
  refine ⟨if colB d' a g' t then 0 else 4, ⟨_, _, _, _, hc⟩, fun R h => ?_, fun R h b hb => ?_⟩
  · rw [call98 hc]; cases colB d' a g' t <;> rfl
  · rw [call102 hb hc]; cases colB d' a g' t <;> rfl
theorem Col.all' (hl : ∃ d a g t, Col l d a g t) (p : Value → Bool) (hp : ∀ b, p (.float .f32 b) = true) (hi : ∀ t, p (.int .i64 t) = true) : l.all p = true := by
  obtain ⟨_, _, _, _, hl⟩ := hl
  exact hl.all p hp (hi _)
theorem call69 (hl : Col l d a g t) {e : Int} (hf : Fin (allL d 0 8 l) e) : EF (trFn Try.prog) R 69 [.agg l.toArray] h = some (.tuple #[.agg (if e = 0 then allL d 0 8 l else zc).toArray, .int .i64 e], h, h.length, h.length) := by
  rw [EF_go tr69 rfl]
  obtain ⟨fr', he, p2, p4⟩ := loop69o (R := R) (h := h) hl 8 0 l (upd (upd (upd (upd (upd (upd (upd (upd (fr0 [.agg l.toArray]) 1 (.pointer (some ⟨h.length, 0, none⟩))) 2 (.pointer (some ⟨h.length + 1, 0, none⟩))) 3 (.int .i64 0)) 4 (.pointer (some ⟨h.length + 2, 0, none⟩))) 5 (.pointer (some ⟨h.length + 3, 0, none⟩))) 10 (.agg l.toArray)) 11 (.agg (shL 20).toArray)) 12 (.int .i64 0)) rfl ⟨d, g, hl, fun j _ _ => rfl⟩ rfl rfl rfl rfl rfl
  have hz : List.replicate 177 (Value.float .f32 0) ++ [Value.int .i64 0] = zc := rfl
  have hz20 : List.replicate 20 (Value.float .f32 0) = z20 := rfl
  have l0 : z20.length = 20 := shL_len 0 (by omega)
  have l1 := shL_len 20 (by omega)
  have c18 := fun {h : H} => call18 (R := R) (h := h)
  have q1 := zc_col.all one (fun _ => rfl) rfl
  have q2 := zc_col.all free1 (fun _ => rfl) rfl
  have q3 := hl.all one (fun _ => rfl) rfl
  have q4 := hl.all free1 (fun _ => rfl) rfl
  have q5 := all_fl l1 shL_fl one (fun _ => rfl)
  have q6 := all_fl l1 shL_fl free1 (fun _ => rfl)
  have q7 := Col.all' hf.col one (fun _ => rfl) (fun _ => rfl)
  have q8 := Col.all' hf.col free1 (fun _ => rfl) (fun _ => rfl)
  have lf : (allL d 0 8 l).length = 178 := by obtain ⟨_, _, _, _, hc⟩ := hf.col; exact hc.len
  have s1 : splice zc 0 zc = zc := splice_all zc_len zc_len
  have s2 : splice zc 0 l = l := splice_all hl.len zc_len
  have s3 : splice z20 0 (shL 20) = shL 20 := splice_all l1 l0
  have s4 : splice zc 0 (allL d 0 8 l) = allL d 0 8 l := splice_all lf zc_len
  have t1 := take_all zc_len
  have t2 := take_all hl.len
  have t3 := take_all l1
  have t4 := take_all lf
  have hc := fun h => hf.c98 R h
  generalize shL 20 = q at *
  generalize allL d 0 8 l = r at *
  by_cases h1 : e = 0 <;> simp only [hz, hz20, zc_len, hl.len, l0, l1, lf, c18, hc, he, p2, p4, h1, q1, q2, q3, q4, q5, q6, q7, q8, s1, s2, s3, s4, t1, t2, t3, t4, EC_skip, EC_ops, EC_seq, nextC_nrm, nextC_ret, nextC_brk, EC_cond, condC_true, condC_false, condC_bool, EC_block, blockC_nrm, blockC_ret, blockC_brk, EC_exit, EC_ret, endF_nrm, endF_ret, evO_nil, evO_cons, evO_consG, gokV_undef, gokV_t, gokV_f, stepO_mk, stepO_mkN, put_mk, put_none, upd_at, fr0_at, av_tmp, av_const, av_func, op_mov, op_pick, pickV_bool, op_alloc, op_box, boxV_list, boxV_int, boxV_float, boxV_bool, boxV_ptr, boxV_slice, op_build, op_bslice, fillL_nil, fillL_cons, op_load, ldV_one, ldV_agg, op_store, stV_mk, op_nilck, nilV_ptr, op_bin, op_eqb, eqbV_bool, op_un, unV_not, op_conv, op_fieldA, fldV_ptr, op_idxA, op_idxS, op_extract, extrV_tuple, op_len, lenV_slice, op_call, backF_mk, bi_cmp_eql, bi_cmp_neq, bi_cmp_lss, bi_cmp_leq, bi_cmp_gtr, bi_cmp_geq, bi_add, bi_sub, bi_mul, bf_add, bf_sub, bf_mul, bf_quo, bf_eql, bf_neq, bf_lss, bf_leq, bf_gtr, bf_geq, hp_push, hp_hp, hp_len, hp_take, blk_own, blk_own0, wr_own, wr_own0, min_own, rd_def, finish_own, resL_nil, resL_cons, resV_tmp, resV_cell, oneOrTuple_one, oneOrTuple_two, oneOrTuple_nil, oneOrTuple_three, ob_some, om_some, ob_none, om_none, List.length_cons, List.length_nil, List.cons_append, List.nil_append, List.getElem?_cons_zero, List.getElem?_cons_succ, List.getD_cons_zero, List.getD_cons_succ, List.map_cons, List.map_nil, Nat.zero_add, Nat.add_zero, Nat.reduceAdd, Nat.reduceMul, Nat.reduceLT, Nat.reduceEqDiff, Nat.reduceLeDiff, ↓reduceIte, cellsL_bool, cellsL_int, cellsL_float, cellsL_str, cellsL_ptr, cellsL_slice, cellsL_agg, List.all_cons, List.all_nil, one_bool, one_int, one_float, one_str, one_ptr, one_slice, free1_bool, free1_int, free1_float, free0_bool, free0_int, free0_float, free0_agg, vfree_bool, vfree_int, vfree_float, vfree_agg, vfree_tuple, noTup, Bool.and_true, Bool.true_and, and_self, true_and, and_true, reduceCtorEq, Nat.min_self, List.drop_zero, List.set_cons_zero, List.set_cons_succ, Bool.not_true, Bool.not_false, beq_self_eq_true, Bool.false_eq_true, Bool.false_and, Bool.and_false, eq_self, Nat.add_assoc, idxSV_int, idxAV_int, Int.reduceToNat, Int.reduceLE, Int.reduceLT, Bool.or_true, Bool.true_or, Bool.or_false, Bool.false_or, decide_true, decide_false, Int.reduceEq, Int.reduceBEq, Int.reduceBNe, Int.reduceAdd, Int.reduceSub, loopC_nrm, loopC_ret, loopC_brk, wrap_lit, EC_draw, quietC_eq, Nat.le_refl, Nat.le_add_right, Int.cast_ofNat_Int, nat_nn, nat_tn]
theorem call75 {b : Nat} (hb : h[b]? = some l) (hl : Col l d a g t) {e : Int} (hf : Fin (allL d 0 8 l) e) : EF (trFn Try.prog) R 75 [.pointer (some ⟨b, 0, none⟩)] h = some (.tuple #[.agg (if e = 0 then allL d 0 8 l else zc).toArray, .int .i64 e], h, h.length, h.length) := by
  rw [EF_go tr75 rfl]
  obtain ⟨fr', he, p2, p5⟩ := loop75o (R := R) (h := h) hb hl 8 0 l (upd (upd (upd (upd (upd (upd (upd (upd (upd (fr0 [.pointer (some ⟨b, 0, none⟩)]) 2 (.pointer (some ⟨h.length, 0, none⟩))) 3 (.int .i64 0)) 9 (.agg (shL 20).toArray)) 4 (.pointer (some ⟨h.length + 1, 0, none⟩))) 10 (.pointer (some ⟨b, 0, none⟩))) 11 (.pointer (some ⟨b, 0, none⟩))) 12 (.agg l.toArray)) 5 (.pointer (some ⟨h.length + 2, 0, none⟩))) 6 (.int .i64 0)) rfl ⟨d, g, hl, fun j _ _ => rfl⟩ rfl rfl rfl rfl rfl
  have hz : List.replicate 177 (Value.float .f32 0) ++ [Value.int .i64 0] = zc := rfl
  have hz20 : List.replicate 20 (Value.float .f32 0) = z20 := rfl
  have l0 : z20.length = 20 := shL_len 0 (by omega)
  have l1 := shL_len 20 (by omega)
  have c18 := fun {h : H} => call49 (R := R) (h := h)
  have q1 := zc_col.all one (fun _ => rfl) rfl
  have q2 := zc_col.all free1 (fun _ => rfl) rfl
  have q3 := hl.all one (fun _ => rfl) rfl
  have q4 := hl.all free1 (fun _ => rfl) rfl
  have q5 := all_fl l1 shL_fl one (fun _ => rfl)
  have q6 := all_fl l1 shL_fl free1 (fun _ => rfl)
  have q7 := Col.all' hf.col one (fun _ => rfl) (fun _ => rfl)
  have q8 := Col.all' hf.col free1 (fun _ => rfl) (fun _ => rfl)
  have lf : (allL d 0 8 l).length = 178 := by obtain ⟨_, _, _, _, hc⟩ := hf.col; exact hc.len
  have s1 : splice zc 0 zc = zc := splice_all zc_len zc_len
  have s2 : splice zc 0 l = l := splice_all hl.len zc_len
  have s3 : splice z20 0 (shL 20) = shL 20 := splice_all l1 l0
  have s4 : splice zc 0 (allL d 0 8 l) = allL d 0 8 l := splice_all lf zc_len
  have t1 := take_all zc_len
  have t2 := take_all hl.len
  have t3 := take_all l1
  have t4 := take_all lf
  have hc := hf.c102 R (hp h [zc, shL 20, allL d 0 8 l]) (h.length + 2) (hp_get _ _ 2)
  generalize shL 20 = q at *
  generalize allL d 0 8 l = r at *
  by_cases h1 : e = 0 <;> simp only [h1] at hc <;> simp only [hz, hz20, zc_len, blk_old hb, hl.len, l0, l1, lf, c18, hc, he, p2, p5, h1, q1, q2, q3, q4, q5, q6, q7, q8, s1, s2, s3, s4, t1, t2, t3, t4, EC_skip, EC_ops, EC_seq, nextC_nrm, nextC_ret, nextC_brk, EC_cond, condC_true, condC_false, condC_bool, EC_block, blockC_nrm, blockC_ret, blockC_brk, EC_exit, EC_ret, endF_nrm, endF_ret, evO_nil, evO_cons, evO_consG, gokV_undef, gokV_t, gokV_f, stepO_mk, stepO_mkN, put_mk, put_none, upd_at, fr0_at, av_tmp, av_const, av_func, op_mov, op_pick, pickV_bool, op_alloc, op_box, boxV_list, boxV_int, boxV_float, boxV_bool, boxV_ptr, boxV_slice, op_build, op_bslice, fillL_nil, fillL_cons, op_load, ldV_one, ldV_agg, op_store, stV_mk, op_nilck, nilV_ptr, op_bin, op_eqb, eqbV_bool, op_un, unV_not, op_conv, op_fieldA, fldV_ptr, op_idxA, op_idxS, op_extract, extrV_tuple, op_len, lenV_slice, op_call, backF_mk, bi_cmp_eql, bi_cmp_neq, bi_cmp_lss, bi_cmp_leq, bi_cmp_gtr, bi_cmp_geq, bi_add, bi_sub, bi_mul, bf_add, bf_sub, bf_mul, bf_quo, bf_eql, bf_neq, bf_lss, bf_leq, bf_gtr, bf_geq, hp_push, hp_hp, hp_len, hp_take, blk_own, blk_own0, wr_own, wr_own0, min_own, rd_def, finish_own, resL_nil, resL_cons, resV_tmp, resV_cell, oneOrTuple_one, oneOrTuple_two, oneOrTuple_nil, oneOrTuple_three, ob_some, om_some, ob_none, om_none, List.length_cons, List.length_nil, List.cons_append, List.nil_append, List.getElem?_cons_zero, List.getElem?_cons_succ, List.getD_cons_zero, List.getD_cons_succ, List.map_cons, List.map_nil, Nat.zero_add, Nat.add_zero, Nat.reduceAdd, Nat.reduceMul, Nat.reduceLT, Nat.reduceEqDiff, Nat.reduceLeDiff, ↓reduceIte, cellsL_bool, cellsL_int, cellsL_float, cellsL_str, cellsL_ptr, cellsL_slice, cellsL_agg, List.all_cons, List.all_nil, one_bool, one_int, one_float, one_str, one_ptr, one_slice, free1_bool, free1_int, free1_float, free0_bool, free0_int, free0_float, free0_agg, vfree_bool, vfree_int, vfree_float, vfree_agg, vfree_tuple, noTup, Bool.and_true, Bool.true_and, and_self, true_and, and_true, reduceCtorEq, Nat.min_self, List.drop_zero, List.set_cons_zero, List.set_cons_succ, Bool.not_true, Bool.not_false, beq_self_eq_true, Bool.false_eq_true, Bool.false_and, Bool.and_false, eq_self, Nat.add_assoc, idxSV_int, idxAV_int, Int.reduceToNat, Int.reduceLE, Int.reduceLT, Bool.or_true, Bool.true_or, Bool.or_false, Bool.false_or, decide_true, decide_false, Int.reduceEq, Int.reduceBEq, Int.reduceBNe, Int.reduceAdd, Int.reduceSub, loopC_nrm, loopC_ret, loopC_brk, wrap_lit, EC_draw, quietC_eq, Nat.le_refl, Nat.le_add_right, Int.cast_ofNat_Int, nat_nn, nat_tn]
/-- The column and the code of both. -/
def setV (d a : Nat → Nat) (g : Nat) (t : Int) (l : List Value) (e : Int) : List Value := if colB d a g t then (if e = 0 then allL d 0 8 l else zc) else zc
def setE (d a : Nat → Nat) (g : Nat) (t : Int) (e : Int) : Int := if colB d a g t then e else 1
theorem setV_cases {e : Int} (d a : Nat → Nat) (g : Nat) (t : Int) (l : List Value) : setV d a g t l e = allL d 0 8 l ∨ setV d a g t l e = zc := by
  unfold setV
  cases colB d a g t
  · exact .inr rfl
  · by_cases h : e = 0
    · rw [if_pos h]; exact .inl rfl
    · rw [if_neg h]; exact .inr rfl
theorem setV_col (hl : Col l d a g t) {e : Int} (hf : Fin (allL d 0 8 l) e) : ∃ d' a' g' t', Col (setV d a g t l e) d' a' g' t' := by
  rcases setV_cases (e := e) d a g t l with h | h <;> rw [h]
  · exact hf.col
  · exact ⟨_, _, _, _, zc_col⟩
theorem call38 (hl : Col l d a g t) {e : Int} (hf : Fin (allL d 0 8 l) e) : EF (trFn Try.prog) R 38 [.agg l.toArray] h = some (.tuple #[.agg (setV d a g t l e).toArray, .int .i64 (setE d a g t e)], h, h.length, h.length) := by
  rw [EF_go tr38 rfl]
  have hc := call27 (R := R) (h := hp h [l, zc]) hl
  have hs := call69 (R := R) (h := hp h [l, zc]) hl hf
  have hz : List.replicate 177 (Value.float .f32 0) ++ [Value.int .i64 0] = zc := rfl
  have q1 := zc_col.all one (fun _ => rfl) rfl
  have q2 := zc_col.all free1 (fun _ => rfl) rfl
  have q3 := hl.all one (fun _ => rfl) rfl
  have q4 := hl.all free1 (fun _ => rfl) rfl
  have q7 := Col.all' hf.col one (fun _ => rfl) (fun _ => rfl)
  have q8 := Col.all' hf.col free1 (fun _ => rfl) (fun _ => rfl)
  have lf : (allL d 0 8 l).length = 178 := by obtain ⟨_, _, _, _, hc⟩ := hf.col; exact hc.len
  have s1 : splice zc 0 zc = zc := splice_all zc_len zc_len
  have s2 : splice zc 0 l = l := splice_all hl.len zc_len
  have s4 : splice zc 0 (allL d 0 8 l) = allL d 0 8 l := splice_all lf zc_len
  have t1 := take_all zc_len
  have t2 := take_all hl.len
  have t4 := take_all lf
  unfold setV setE
  generalize allL d 0 8 l = r at *
  cases h1 : colB d a g t
  · simp only [hz, zc_len, hl.len, hc, h1, q1, q2, q3, q4, s1, s2, t1, t2, EC_skip, EC_ops, EC_seq, nextC_nrm, nextC_ret, nextC_brk, EC_cond, condC_true, condC_false, condC_bool, EC_block, blockC_nrm, blockC_ret, blockC_brk, EC_exit, EC_ret, endF_nrm, endF_ret, evO_nil, evO_cons, evO_consG, gokV_undef, gokV_t, gokV_f, stepO_mk, stepO_mkN, put_mk, put_none, upd_at, fr0_at, av_tmp, av_const, av_func, op_mov, op_pick, pickV_bool, op_alloc, op_box, boxV_list, boxV_int, boxV_float, boxV_bool, boxV_ptr, boxV_slice, op_build, op_bslice, fillL_nil, fillL_cons, op_load, ldV_one, ldV_agg, op_store, stV_mk, op_nilck, nilV_ptr, op_bin, op_eqb, eqbV_bool, op_un, unV_not, op_conv, op_fieldA, fldV_ptr, op_idxA, op_idxS, op_extract, extrV_tuple, op_len, lenV_slice, op_call, backF_mk, bi_cmp_eql, bi_cmp_neq, bi_cmp_lss, bi_cmp_leq, bi_cmp_gtr, bi_cmp_geq, bi_add, bi_sub, bi_mul, bf_add, bf_sub, bf_mul, bf_quo, bf_eql, bf_neq, bf_lss, bf_leq, bf_gtr, bf_geq, hp_push, hp_hp, hp_len, hp_take, blk_own, blk_own0, wr_own, wr_own0, min_own, rd_def, finish_own, resL_nil, resL_cons, resV_tmp, resV_cell, oneOrTuple_one, oneOrTuple_two, oneOrTuple_nil, oneOrTuple_three, ob_some, om_some, ob_none, om_none, List.length_cons, List.length_nil, List.cons_append, List.nil_append, List.getElem?_cons_zero, List.getElem?_cons_succ, List.getD_cons_zero, List.getD_cons_succ, List.map_cons, List.map_nil, Nat.zero_add, Nat.add_zero, Nat.reduceAdd, Nat.reduceMul, Nat.reduceLT, Nat.reduceEqDiff, Nat.reduceLeDiff, ↓reduceIte, cellsL_bool, cellsL_int, cellsL_float, cellsL_str, cellsL_ptr, cellsL_slice, cellsL_agg, List.all_cons, List.all_nil, one_bool, one_int, one_float, one_str, one_ptr, one_slice, free1_bool, free1_int, free1_float, free0_bool, free0_int, free0_float, free0_agg, vfree_bool, vfree_int, vfree_float, vfree_agg, vfree_tuple, noTup, Bool.and_true, Bool.true_and, and_self, true_and, and_true, reduceCtorEq, Nat.min_self, List.drop_zero, List.set_cons_zero, List.set_cons_succ, Bool.not_true, Bool.not_false, beq_self_eq_true, Bool.false_eq_true, Bool.false_and, Bool.and_false, eq_self, Nat.add_assoc, idxSV_int, idxAV_int, Int.reduceToNat, Int.reduceLE, Int.reduceLT, Bool.or_true, Bool.true_or, Bool.or_false, Bool.false_or, decide_true, decide_false, Int.reduceEq, Int.reduceBEq, Int.reduceBNe, Int.reduceAdd, Int.reduceSub, loopC_nrm, loopC_ret, loopC_brk, wrap_lit, EC_draw, quietC_eq, Nat.le_refl, Nat.le_add_right, Int.cast_ofNat_Int, nat_nn, nat_tn]
  · by_cases h2 : e = 0
    · subst h2
      simp only [↓reduceIte] at hs
      simp only [hz, zc_len, hl.len, lf, hc, hs, h1, q1, q2, q3, q4, q7, q8, s1, s2, s4, t1, t2, t4, EC_skip, EC_ops, EC_seq, nextC_nrm, nextC_ret, nextC_brk, EC_cond, condC_true, condC_false, condC_bool, EC_block, blockC_nrm, blockC_ret, blockC_brk, EC_exit, EC_ret, endF_nrm, endF_ret, evO_nil, evO_cons, evO_consG, gokV_undef, gokV_t, gokV_f, stepO_mk, stepO_mkN, put_mk, put_none, upd_at, fr0_at, av_tmp, av_const, av_func, op_mov, op_pick, pickV_bool, op_alloc, op_box, boxV_list, boxV_int, boxV_float, boxV_bool, boxV_ptr, boxV_slice, op_build, op_bslice, fillL_nil, fillL_cons, op_load, ldV_one, ldV_agg, op_store, stV_mk, op_nilck, nilV_ptr, op_bin, op_eqb, eqbV_bool, op_un, unV_not, op_conv, op_fieldA, fldV_ptr, op_idxA, op_idxS, op_extract, extrV_tuple, op_len, lenV_slice, op_call, backF_mk, bi_cmp_eql, bi_cmp_neq, bi_cmp_lss, bi_cmp_leq, bi_cmp_gtr, bi_cmp_geq, bi_add, bi_sub, bi_mul, bf_add, bf_sub, bf_mul, bf_quo, bf_eql, bf_neq, bf_lss, bf_leq, bf_gtr, bf_geq, hp_push, hp_hp, hp_len, hp_take, blk_own, blk_own0, wr_own, wr_own0, min_own, rd_def, finish_own, resL_nil, resL_cons, resV_tmp, resV_cell, oneOrTuple_one, oneOrTuple_two, oneOrTuple_nil, oneOrTuple_three, ob_some, om_some, ob_none, om_none, List.length_cons, List.length_nil, List.cons_append, List.nil_append, List.getElem?_cons_zero, List.getElem?_cons_succ, List.getD_cons_zero, List.getD_cons_succ, List.map_cons, List.map_nil, Nat.zero_add, Nat.add_zero, Nat.reduceAdd, Nat.reduceMul, Nat.reduceLT, Nat.reduceEqDiff, Nat.reduceLeDiff, ↓reduceIte, cellsL_bool, cellsL_int, cellsL_float, cellsL_str, cellsL_ptr, cellsL_slice, cellsL_agg, List.all_cons, List.all_nil, one_bool, one_int, one_float, one_str, one_ptr, one_slice, free1_bool, free1_int, free1_float, free0_bool, free0_int, free0_float, free0_agg, vfree_bool, vfree_int, vfree_float, vfree_agg, vfree_tuple, noTup, Bool.and_true, Bool.true_and, and_self, true_and, and_true, reduceCtorEq, Nat.min_self, List.drop_zero, List.set_cons_zero, List.set_cons_succ, Bool.not_true, Bool.not_false, beq_self_eq_true, Bool.false_eq_true, Bool.false_and, Bool.and_false, eq_self, Nat.add_assoc, idxSV_int, idxAV_int, Int.reduceToNat, Int.reduceLE, Int.reduceLT, Bool.or_true, Bool.true_or, Bool.or_false, Bool.false_or, decide_true, decide_false, Int.reduceEq, Int.reduceBEq, Int.reduceBNe, Int.reduceAdd, Int.reduceSub, loopC_nrm, loopC_ret, loopC_brk, wrap_lit, EC_draw, quietC_eq, Nat.le_refl, Nat.le_add_right, Int.cast_ofNat_Int, nat_nn, nat_tn]
    · rw [if_neg h2] at hs
      simp only [hz, zc_len, hl.len, lf, hc, hs, h1, h2, q1, q2, q3, q4, q7, q8, s1, s2, s4, t1, t2, t4, EC_skip, EC_ops, EC_seq, nextC_nrm, nextC_ret, nextC_brk, EC_cond, condC_true, condC_false, condC_bool, EC_block, blockC_nrm, blockC_ret, blockC_brk, EC_exit, EC_ret, endF_nrm, endF_ret, evO_nil, evO_cons, evO_consG, gokV_undef, gokV_t, gokV_f, stepO_mk, stepO_mkN, put_mk, put_none, upd_at, fr0_at, av_tmp, av_const, av_func, op_mov, op_pick, pickV_bool, op_alloc, op_box, boxV_list, boxV_int, boxV_float, boxV_bool, boxV_ptr, boxV_slice, op_build, op_bslice, fillL_nil, fillL_cons, op_load, ldV_one, ldV_agg, op_store, stV_mk, op_nilck, nilV_ptr, op_bin, op_eqb, eqbV_bool, op_un, unV_not, op_conv, op_fieldA, fldV_ptr, op_idxA, op_idxS, op_extract, extrV_tuple, op_len, lenV_slice, op_call, backF_mk, bi_cmp_eql, bi_cmp_neq, bi_cmp_lss, bi_cmp_leq, bi_cmp_gtr, bi_cmp_geq, bi_add, bi_sub, bi_mul, bf_add, bf_sub, bf_mul, bf_quo, bf_eql, bf_neq, bf_lss, bf_leq, bf_gtr, bf_geq, hp_push, hp_hp, hp_len, hp_take, blk_own, blk_own0, wr_own, wr_own0, min_own, rd_def, finish_own, resL_nil, resL_cons, resV_tmp, resV_cell, oneOrTuple_one, oneOrTuple_two, oneOrTuple_nil, oneOrTuple_three, ob_some, om_some, ob_none, om_none, List.length_cons, List.length_nil, List.cons_append, List.nil_append, List.getElem?_cons_zero, List.getElem?_cons_succ, List.getD_cons_zero, List.getD_cons_succ, List.map_cons, List.map_nil, Nat.zero_add, Nat.add_zero, Nat.reduceAdd, Nat.reduceMul, Nat.reduceLT, Nat.reduceEqDiff, Nat.reduceLeDiff, ↓reduceIte, cellsL_bool, cellsL_int, cellsL_float, cellsL_str, cellsL_ptr, cellsL_slice, cellsL_agg, List.all_cons, List.all_nil, one_bool, one_int, one_float, one_str, one_ptr, one_slice, free1_bool, free1_int, free1_float, free0_bool, free0_int, free0_float, free0_agg, vfree_bool, vfree_int, vfree_float, vfree_agg, vfree_tuple, noTup, Bool.and_true, Bool.true_and, and_self, true_and, and_true, reduceCtorEq, Nat.min_self, List.drop_zero, List.set_cons_zero, List.set_cons_succ, Bool.not_true, Bool.not_false, beq_self_eq_true, Bool.false_eq_true, Bool.false_and, Bool.and_false, eq_self, Nat.add_assoc, idxSV_int, idxAV_int, Int.reduceToNat, Int.reduceLE, Int.reduceLT, Bool.or_true, Bool.true_or, Bool.or_false, Bool.false_or, decide_true, decide_false, Int.reduceEq, Int.reduceBEq, Int.reduceBNe, Int.reduceAdd, Int.reduceSub, loopC_nrm, loopC_ret, loopC_brk, wrap_lit, EC_draw, quietC_eq, Nat.le_refl, Nat.le_add_right, Int.cast_ofNat_Int, nat_nn, nat_tn]
theorem call45 (hl : Col l d a g t) {e : Int} (hf : Fin (allL d 0 8 l) e) : EF (trFn Try.prog) R 45 [.agg l.toArray] h = some (.tuple #[.agg (setV d a g t l e).toArray, .int .i64 (setE d a g t e)], h, h.length, h.length) := by
  rw [EF_go tr45 rfl]
  have hc := call60 (R := R) (h := hp h [l, zc]) (b := h.length) (hp_get0 _ _) hl
  have hs := call75 (R := R) (h := hp h [l, zc]) (b := h.length) (hp_get0 _ _) hl hf
  have hz : List.replicate 177 (Value.float .f32 0) ++ [Value.int .i64 0] = zc := rfl
  have q1 := zc_col.all one (fun _ => rfl) rfl
  have q2 := zc_col.all free1 (fun _ => rfl) rfl
  have q3 := hl.all one (fun _ => rfl) rfl
  have q4 := hl.all free1 (fun _ => rfl) rfl
  have q7 := Col.all' hf.col one (fun _ => rfl) (fun _ => rfl)
  have q8 := Col.all' hf.col free1 (fun _ => rfl) (fun _ => rfl)
  have lf : (allL d 0 8 l).length = 178 := by obtain ⟨_, _, _, _, hc⟩ := hf.col; exact hc.len
  have s1 : splice zc 0 zc = zc := splice_all zc_len zc_len
  have s2 : splice zc 0 l = l := splice_all hl.len zc_len
  have s4 : splice zc 0 (allL d 0 8 l) = allL d 0 8 l := splice_all lf zc_len
  have t1 := take_all zc_len
  have t2 := take_all hl.len
  have t4 := take_all lf
  unfold setV setE
  generalize allL d 0 8 l = r at *
  cases h1 : colB d a g t
  · simp only [hz, zc_len, hl.len, hc, h1, q1, q2, q3, q4, s1, s2, t1, t2, EC_skip, EC_ops, EC_seq, nextC_nrm, nextC_ret, nextC_brk, EC_cond, condC_true, condC_false, condC_bool, EC_block, blockC_nrm, blockC_ret, blockC_brk, EC_exit, EC_ret, endF_nrm, endF_ret, evO_nil, evO_cons, evO_consG, gokV_undef, gokV_t, gokV_f, stepO_mk, stepO_mkN, put_mk, put_none, upd_at, fr0_at, av_tmp, av_const, av_func, op_mov, op_pick, pickV_bool, op_alloc, op_box, boxV_list, boxV_int, boxV_float, boxV_bool, boxV_ptr, boxV_slice, op_build, op_bslice, fillL_nil, fillL_cons, op_load, ldV_one, ldV_agg, op_store, stV_mk, op_nilck, nilV_ptr, op_bin, op_eqb, eqbV_bool, op_un, unV_not, op_conv, op_fieldA, fldV_ptr, op_idxA, op_idxS, op_extract, extrV_tuple, op_len, lenV_slice, op_call, backF_mk, bi_cmp_eql, bi_cmp_neq, bi_cmp_lss, bi_cmp_leq, bi_cmp_gtr, bi_cmp_geq, bi_add, bi_sub, bi_mul, bf_add, bf_sub, bf_mul, bf_quo, bf_eql, bf_neq, bf_lss, bf_leq, bf_gtr, bf_geq, hp_push, hp_hp, hp_len, hp_take, blk_own, blk_own0, wr_own, wr_own0, min_own, rd_def, finish_own, resL_nil, resL_cons, resV_tmp, resV_cell, oneOrTuple_one, oneOrTuple_two, oneOrTuple_nil, oneOrTuple_three, ob_some, om_some, ob_none, om_none, List.length_cons, List.length_nil, List.cons_append, List.nil_append, List.getElem?_cons_zero, List.getElem?_cons_succ, List.getD_cons_zero, List.getD_cons_succ, List.map_cons, List.map_nil, Nat.zero_add, Nat.add_zero, Nat.reduceAdd, Nat.reduceMul, Nat.reduceLT, Nat.reduceEqDiff, Nat.reduceLeDiff, ↓reduceIte, cellsL_bool, cellsL_int, cellsL_float, cellsL_str, cellsL_ptr, cellsL_slice, cellsL_agg, List.all_cons, List.all_nil, one_bool, one_int, one_float, one_str, one_ptr, one_slice, free1_bool, free1_int, free1_float, free0_bool, free0_int, free0_float, free0_agg, vfree_bool, vfree_int, vfree_float, vfree_agg, vfree_tuple, noTup, Bool.and_true, Bool.true_and, and_self, true_and, and_true, reduceCtorEq, Nat.min_self, List.drop_zero, List.set_cons_zero, List.set_cons_succ, Bool.not_true, Bool.not_false, beq_self_eq_true, Bool.false_eq_true, Bool.false_and, Bool.and_false, eq_self, Nat.add_assoc, idxSV_int, idxAV_int, Int.reduceToNat, Int.reduceLE, Int.reduceLT, Bool.or_true, Bool.true_or, Bool.or_false, Bool.false_or, decide_true, decide_false, Int.reduceEq, Int.reduceBEq, Int.reduceBNe, Int.reduceAdd, Int.reduceSub, loopC_nrm, loopC_ret, loopC_brk, wrap_lit, EC_draw, quietC_eq, Nat.le_refl, Nat.le_add_right, Int.cast_ofNat_Int, nat_nn, nat_tn]
  · by_cases h2 : e = 0
    · subst h2
      simp only [↓reduceIte] at hs
      simp only [hz, zc_len, hl.len, lf, hc, hs, h1, q1, q2, q3, q4, q7, q8, s1, s2, s4, t1, t2, t4, EC_skip, EC_ops, EC_seq, nextC_nrm, nextC_ret, nextC_brk, EC_cond, condC_true, condC_false, condC_bool, EC_block, blockC_nrm, blockC_ret, blockC_brk, EC_exit, EC_ret, endF_nrm, endF_ret, evO_nil, evO_cons, evO_consG, gokV_undef, gokV_t, gokV_f, stepO_mk, stepO_mkN, put_mk, put_none, upd_at, fr0_at, av_tmp, av_const, av_func, op_mov, op_pick, pickV_bool, op_alloc, op_box, boxV_list, boxV_int, boxV_float, boxV_bool, boxV_ptr, boxV_slice, op_build, op_bslice, fillL_nil, fillL_cons, op_load, ldV_one, ldV_agg, op_store, stV_mk, op_nilck, nilV_ptr, op_bin, op_eqb, eqbV_bool, op_un, unV_not, op_conv, op_fieldA, fldV_ptr, op_idxA, op_idxS, op_extract, extrV_tuple, op_len, lenV_slice, op_call, backF_mk, bi_cmp_eql, bi_cmp_neq, bi_cmp_lss, bi_cmp_leq, bi_cmp_gtr, bi_cmp_geq, bi_add, bi_sub, bi_mul, bf_add, bf_sub, bf_mul, bf_quo, bf_eql, bf_neq, bf_lss, bf_leq, bf_gtr, bf_geq, hp_push, hp_hp, hp_len, hp_take, blk_own, blk_own0, wr_own, wr_own0, min_own, rd_def, finish_own, resL_nil, resL_cons, resV_tmp, resV_cell, oneOrTuple_one, oneOrTuple_two, oneOrTuple_nil, oneOrTuple_three, ob_some, om_some, ob_none, om_none, List.length_cons, List.length_nil, List.cons_append, List.nil_append, List.getElem?_cons_zero, List.getElem?_cons_succ, List.getD_cons_zero, List.getD_cons_succ, List.map_cons, List.map_nil, Nat.zero_add, Nat.add_zero, Nat.reduceAdd, Nat.reduceMul, Nat.reduceLT, Nat.reduceEqDiff, Nat.reduceLeDiff, ↓reduceIte, cellsL_bool, cellsL_int, cellsL_float, cellsL_str, cellsL_ptr, cellsL_slice, cellsL_agg, List.all_cons, List.all_nil, one_bool, one_int, one_float, one_str, one_ptr, one_slice, free1_bool, free1_int, free1_float, free0_bool, free0_int, free0_float, free0_agg, vfree_bool, vfree_int, vfree_float, vfree_agg, vfree_tuple, noTup, Bool.and_true, Bool.true_and, and_self, true_and, and_true, reduceCtorEq, Nat.min_self, List.drop_zero, List.set_cons_zero, List.set_cons_succ, Bool.not_true, Bool.not_false, beq_self_eq_true, Bool.false_eq_true, Bool.false_and, Bool.and_false, eq_self, Nat.add_assoc, idxSV_int, idxAV_int, Int.reduceToNat, Int.reduceLE, Int.reduceLT, Bool.or_true, Bool.true_or, Bool.or_false, Bool.false_or, decide_true, decide_false, Int.reduceEq, Int.reduceBEq, Int.reduceBNe, Int.reduceAdd, Int.reduceSub, loopC_nrm, loopC_ret, loopC_brk, wrap_lit, EC_draw, quietC_eq, Nat.le_refl, Nat.le_add_right, Int.cast_ofNat_Int, nat_nn, nat_tn]
    · rw [if_neg h2] at hs
      simp only [hz, zc_len, hl.len, lf, hc, hs, h1, h2, q1, q2, q3, q4, q7, q8, s1, s2, s4, t1, t2, t4, EC_skip, EC_ops, EC_seq, nextC_nrm, nextC_ret, nextC_brk, EC_cond, condC_true, condC_false, condC_bool, EC_block, blockC_nrm, blockC_ret, blockC_brk, EC_exit, EC_ret, endF_nrm, endF_ret, evO_nil, evO_cons, evO_consG, gokV_undef, gokV_t, gokV_f, stepO_mk, stepO_mkN, put_mk, put_none, upd_at, fr0_at, av_tmp, av_const, av_func, op_mov, op_pick, pickV_bool, op_alloc, op_box, boxV_list, boxV_int, boxV_float, boxV_bool, boxV_ptr, boxV_slice, op_build, op_bslice, fillL_nil, fillL_cons, op_load, ldV_one, ldV_agg, op_store, stV_mk, op_nilck, nilV_ptr, op_bin, op_eqb, eqbV_bool, op_un, unV_not, op_conv, op_fieldA, fldV_ptr, op_idxA, op_idxS, op_extract, extrV_tuple, op_len, lenV_slice, op_call, backF_mk, bi_cmp_eql, bi_cmp_neq, bi_cmp_lss, bi_cmp_leq, bi_cmp_gtr, bi_cmp_geq, bi_add, bi_sub, bi_mul, bf_add, bf_sub, bf_mul, bf_quo, bf_eql, bf_neq, bf_lss, bf_leq, bf_gtr, bf_geq, hp_push, hp_hp, hp_len, hp_take, blk_own, blk_own0, wr_own, wr_own0, min_own, rd_def, finish_own, resL_nil, resL_cons, resV_tmp, resV_cell, oneOrTuple_one, oneOrTuple_two, oneOrTuple_nil, oneOrTuple_three, ob_some, om_some, ob_none, om_none, List.length_cons, List.length_nil, List.cons_append, List.nil_append, List.getElem?_cons_zero, List.getElem?_cons_succ, List.getD_cons_zero, List.getD_cons_succ, List.map_cons, List.map_nil, Nat.zero_add, Nat.add_zero, Nat.reduceAdd, Nat.reduceMul, Nat.reduceLT, Nat.reduceEqDiff, Nat.reduceLeDiff, ↓reduceIte, cellsL_bool, cellsL_int, cellsL_float, cellsL_str, cellsL_ptr, cellsL_slice, cellsL_agg, List.all_cons, List.all_nil, one_bool, one_int, one_float, one_str, one_ptr, one_slice, free1_bool, free1_int, free1_float, free0_bool, free0_int, free0_float, free0_agg, vfree_bool, vfree_int, vfree_float, vfree_agg, vfree_tuple, noTup, Bool.and_true, Bool.true_and, and_self, true_and, and_true, reduceCtorEq, Nat.min_self, List.drop_zero, List.set_cons_zero, List.set_cons_succ, Bool.not_true, Bool.not_false, beq_self_eq_true, Bool.false_eq_true, Bool.false_and, Bool.and_false, eq_self, Nat.add_assoc, idxSV_int, idxAV_int, Int.reduceToNat, Int.reduceLE, Int.reduceLT, Bool.or_true, Bool.true_or, Bool.or_false, Bool.false_or, decide_true, decide_false, Int.reduceEq, Int.reduceBEq, Int.reduceBNe, Int.reduceAdd, Int.reduceSub, loopC_nrm, loopC_ret, loopC_brk, wrap_lit, EC_draw, quietC_eq, Nat.le_refl, Nat.le_add_right, Int.cast_ofNat_Int, nat_nn, nat_tn]
theorem call13 (hl : Col l d a g t) : EF (trFn Try.prog) R 13 [.agg l.toArray] h = some (.bool true, h, h.length, h.length) := by
  rw [EF_go tr13 rfl]
  obtain ⟨e, hf⟩ := fin_of hl
  have c45 : ∀ h : H, _ := fun h => call45 (R := R) (h := h) hl hf
  have c38 : ∀ h : H, _ := fun h => call38 (R := R) (h := h) hl hf
  have hb : (setE d a g t e != setE d a g t e) = false := by simp
  have hv := setV_col hl hf
  have q7 := Col.all' hv one (fun _ => rfl) (fun _ => rfl)
  have q8 := Col.all' hv free1 (fun _ => rfl) (fun _ => rfl)
  obtain ⟨d', a', g', t', hv⟩ := hv
  have c33 : ∀ h : H, _ := fun h => call33 (R := R) (h := h) hv
  have hz : List.replicate 177 (Value.float .f32 0) ++ [Value.int .i64 0] = zc := rfl
  have s4 : splice zc 0 (setV d a g t l e) = setV d a g t l e := splice_all hv.len zc_len
  have t2 := take_all hl.len
  have t4 := take_all hv.len
  have lf := hv.len
  generalize setV d a g t l e = r at *
  generalize setE d a g t e = s at *
  simp only [hz, zc_len, hl.len, lf, call24 hl, c45, c38, c33, hb, q7, q8, s4, t2, t4, EC_skip, EC_ops, EC_seq, nextC_nrm, nextC_ret, nextC_brk, EC_cond, condC_true, condC_false, condC_bool, EC_block, blockC_nrm, blockC_ret, blockC_brk, EC_exit, EC_ret, endF_nrm, endF_ret, evO_nil, evO_cons, evO_consG, gokV_undef, gokV_t, gokV_f, stepO_mk, stepO_mkN, put_mk, put_none, upd_at, fr0_at, av_tmp, av_const, av_func, op_mov, op_pick, pickV_bool, op_alloc, op_box, boxV_list, boxV_int, boxV_float, boxV_bool, boxV_ptr, boxV_slice, op_build, op_bslice, fillL_nil, fillL_cons, op_load, ldV_one, ldV_agg, op_store, stV_mk, op_nilck, nilV_ptr, op_bin, op_eqb, eqbV_bool, op_un, unV_not, op_conv, op_fieldA, fldV_ptr, op_idxA, op_idxS, op_extract, extrV_tuple, op_len, lenV_slice, op_call, backF_mk, bi_cmp_eql, bi_cmp_neq, bi_cmp_lss, bi_cmp_leq, bi_cmp_gtr, bi_cmp_geq, bi_add, bi_sub, bi_mul, bf_add, bf_sub, bf_mul, bf_quo, bf_eql, bf_neq, bf_lss, bf_leq, bf_gtr, bf_geq, hp_push, hp_hp, hp_len, hp_take, blk_own, blk_own0, wr_own, wr_own0, min_own, rd_def, finish_own, resL_nil, resL_cons, resV_tmp, resV_cell, oneOrTuple_one, oneOrTuple_two, oneOrTuple_nil, oneOrTuple_three, ob_some, om_some, ob_none, om_none, List.length_cons, List.length_nil, List.cons_append, List.nil_append, List.getElem?_cons_zero, List.getElem?_cons_succ, List.getD_cons_zero, List.getD_cons_succ, List.map_cons, List.map_nil, Nat.zero_add, Nat.add_zero, Nat.reduceAdd, Nat.reduceMul, Nat.reduceLT, Nat.reduceEqDiff, Nat.reduceLeDiff, ↓reduceIte, cellsL_bool, cellsL_int, cellsL_float, cellsL_str, cellsL_ptr, cellsL_slice, cellsL_agg, List.all_cons, List.all_nil, one_bool, one_int, one_float, one_str, one_ptr, one_slice, free1_bool, free1_int, free1_float, free0_bool, free0_int, free0_float, free0_agg, vfree_bool, vfree_int, vfree_float, vfree_agg, vfree_tuple, noTup, Bool.and_true, Bool.true_and, and_self, true_and, and_true, reduceCtorEq, Nat.min_self, List.drop_zero, List.set_cons_zero, List.set_cons_succ, Bool.not_true, Bool.not_false, beq_self_eq_true, Bool.false_eq_true, Bool.false_and, Bool.and_false, eq_self, Nat.add_assoc, idxSV_int, idxAV_int, Int.reduceToNat, Int.reduceLE, Int.reduceLT, Bool.or_true, Bool.true_or, Bool.or_false, Bool.false_or, decide_true, decide_false, Int.reduceEq, Int.reduceBEq, Int.reduceBNe, Int.reduceAdd, Int.reduceSub, loopC_nrm, loopC_ret, loopC_brk, wrap_lit, EC_draw, quietC_eq, Nat.le_refl, Nat.le_add_right, Int.cast_ofNat_Int, nat_nn, nat_tn]
end
end Go.Proofs.Ytdjllbkfbmdlfaa
