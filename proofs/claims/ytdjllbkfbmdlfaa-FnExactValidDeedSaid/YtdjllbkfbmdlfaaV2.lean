/-
  The law 'FnExactValidDeed' returns true at every input: the program's two tests of a deed come to the same.
-/
import Derived.Test.YtdjllbkfbmdlfaaV1
import Derived.Test.YtdjllbkfbmdlfaaRows
import Derived.ProofKit
namespace Go.Proofs.Ytdjllbkfbmdlfaa
open Go Go.AE Go.ChangeShapes Go.WideShapes Go.ChangeAt Go.RowKit
set_option maxRecDepth 100000
set_option linter.unusedSimpArgs false

theorem call14 {R h : H} (k a b : Int) : EF (trFn Try.prog) R 14 [.agg #[.int .i64 k, .int .i64 a, .int .i64 b]] h = some (.bool (vd k a b), h, h.length, h.length) := by
  rw [EF_go tr14 rfl]
  simp only [call46, EC_skip, EC_ops, EC_seq, nextC_nrm, nextC_ret, nextC_brk, EC_cond, condC_true, condC_false, condC_bool, EC_block, blockC_nrm, blockC_ret, blockC_brk, EC_exit, EC_ret, endF_nrm, endF_ret, evO_nil, evO_cons, evO_consG, gokV_undef, gokV_t, gokV_f, stepO_mk, stepO_mkN, put_mk, put_none, upd_at, fr0_at, av_tmp, av_const, av_func, op_mov, op_pick, pickV_bool, op_alloc, op_box, boxV_list, boxV_int, boxV_float, boxV_bool, boxV_ptr, boxV_slice, op_build, op_bslice, fillL_nil, fillL_cons, op_load, ldV_one, ldV_agg, op_store, stV_mk, op_nilck, nilV_ptr, op_bin, op_eqb, eqbV_bool, op_un, unV_not, op_conv, op_fieldA, fldV_ptr, op_idxA, idxAV_nat, op_idxS, idxSV_nat, op_extract, extrV_tuple, op_len, lenV_slice, op_call, backF_mk, bi_cmp_eql, bi_cmp_neq, bi_cmp_lss, bi_cmp_leq, bi_cmp_gtr, bi_cmp_geq, bi_add, bi_sub, bi_mul, bf_add, bf_sub, bf_mul, bf_quo, bf_eql, bf_neq, bf_lss, bf_leq, bf_gtr, bf_geq, hp_push, hp_hp, hp_len, hp_take, blk_own, blk_own0, wr_own, wr_own0, min_own, rd_def, finish_own, resL_nil, resL_cons, resV_tmp, resV_cell, oneOrTuple_one, oneOrTuple_two, oneOrTuple_nil, oneOrTuple_three, ob_some, om_some, ob_none, om_none, List.length_cons, List.length_nil, List.cons_append, List.nil_append, List.getElem?_cons_zero, List.getElem?_cons_succ, List.getD_cons_zero, List.getD_cons_succ, List.map_cons, List.map_nil, Nat.zero_add, Nat.add_zero, Nat.reduceAdd, Nat.reduceMul, Nat.reduceLT, Nat.reduceEqDiff, Nat.reduceLeDiff, ↓reduceIte, cellsL_bool, cellsL_int, cellsL_float, cellsL_str, cellsL_ptr, cellsL_slice, cellsL_agg, List.all_cons, List.all_nil, one_bool, one_int, one_float, one_str, one_ptr, one_slice, free1_bool, free1_int, free1_float, free0_bool, free0_int, free0_float, free0_agg, vfree_bool, vfree_int, vfree_float, vfree_agg, vfree_tuple, noTup, Bool.and_true, Bool.true_and, and_self, true_and, and_true, reduceCtorEq, Nat.min_self, splice, List.take_zero, List.take_succ_cons, List.drop_zero, List.drop_succ_cons, List.drop_nil, List.set_cons_zero, List.set_cons_succ, Bool.not_true, Bool.not_false, beq_self_eq_true, Bool.false_eq_true, Bool.false_and, Bool.and_false, eq_self, Nat.add_assoc, idxSV_int, idxAV_int, Int.reduceToNat, Int.reduceLE, Int.reduceLT, Bool.or_true, Bool.true_or, Bool.or_false, Bool.false_or, decide_true, decide_false, Int.reduceEq, Int.reduceBEq, Int.reduceBNe, Int.reduceAdd, Int.reduceSub]
theorem call3 {R h : H} (k a b : Int) : EF (trFn Try.prog) R 3 [.agg #[.int .i64 k, .int .i64 a, .int .i64 b]] h = some (.bool true, h, h.length, h.length) := by
  rw [EF_go tr3 rfl]
  cases h1 : vd k a b <;> simp only [call15, call14, call16, h1, EC_skip, EC_ops, EC_seq, nextC_nrm, nextC_ret, nextC_brk, EC_cond, condC_true, condC_false, condC_bool, EC_block, blockC_nrm, blockC_ret, blockC_brk, EC_exit, EC_ret, endF_nrm, endF_ret, evO_nil, evO_cons, evO_consG, gokV_undef, gokV_t, gokV_f, stepO_mk, stepO_mkN, put_mk, put_none, upd_at, fr0_at, av_tmp, av_const, av_func, op_mov, op_pick, pickV_bool, op_alloc, op_box, boxV_list, boxV_int, boxV_float, boxV_bool, boxV_ptr, boxV_slice, op_build, op_bslice, fillL_nil, fillL_cons, op_load, ldV_one, ldV_agg, op_store, stV_mk, op_nilck, nilV_ptr, op_bin, op_eqb, eqbV_bool, op_un, unV_not, op_conv, op_fieldA, fldV_ptr, op_idxA, idxAV_nat, op_idxS, idxSV_nat, op_extract, extrV_tuple, op_len, lenV_slice, op_call, backF_mk, bi_cmp_eql, bi_cmp_neq, bi_cmp_lss, bi_cmp_leq, bi_cmp_gtr, bi_cmp_geq, bi_add, bi_sub, bi_mul, bf_add, bf_sub, bf_mul, bf_quo, bf_eql, bf_neq, bf_lss, bf_leq, bf_gtr, bf_geq, hp_push, hp_hp, hp_len, hp_take, blk_own, blk_own0, wr_own, wr_own0, min_own, rd_def, finish_own, resL_nil, resL_cons, resV_tmp, resV_cell, oneOrTuple_one, oneOrTuple_two, oneOrTuple_nil, oneOrTuple_three, ob_some, om_some, ob_none, om_none, List.length_cons, List.length_nil, List.cons_append, List.nil_append, List.getElem?_cons_zero, List.getElem?_cons_succ, List.getD_cons_zero, List.getD_cons_succ, List.map_cons, List.map_nil, Nat.zero_add, Nat.add_zero, Nat.reduceAdd, Nat.reduceMul, Nat.reduceLT, Nat.reduceEqDiff, Nat.reduceLeDiff, ↓reduceIte, cellsL_bool, cellsL_int, cellsL_float, cellsL_str, cellsL_ptr, cellsL_slice, cellsL_agg, List.all_cons, List.all_nil, one_bool, one_int, one_float, one_str, one_ptr, one_slice, free1_bool, free1_int, free1_float, free0_bool, free0_int, free0_float, free0_agg, vfree_bool, vfree_int, vfree_float, vfree_agg, vfree_tuple, noTup, Bool.and_true, Bool.true_and, and_self, true_and, and_true, reduceCtorEq, Nat.min_self, splice, List.take_zero, List.take_succ_cons, List.drop_zero, List.drop_succ_cons, List.drop_nil, List.set_cons_zero, List.set_cons_succ, Bool.not_true, Bool.not_false, beq_self_eq_true, Bool.false_eq_true, Bool.false_and, Bool.and_false, eq_self, Nat.add_assoc, idxSV_int, idxAV_int, Int.reduceToNat, Int.reduceLE, Int.reduceLT, Bool.or_true, Bool.true_or, Bool.or_false, Bool.false_or, decide_true, decide_false, Int.reduceEq, Int.reduceBEq, Int.reduceBNe, Int.reduceAdd, Int.reduceSub]

theorem Try.own : ownKnob Try.prog.godebug = none := by kernel_rfl
theorem Try.laidOut : laidOutB Try.prog = true := by kernel_rfl
theorem Try.mixed : Try.prog.follows .mixedOrders = true := by kernel_rfl

theorem flat23 : flatT Try.prog 23 = some (true, [.i .i64, .i .i64, .i .i64]) := by kernel_rfl

theorem x_lifted (os : Os) (started : os.Started) (H : Type) (enc : TypeId × Value → H) :
    ReturnsInHanded {} Try.checked os 3 .any (Rows.fnExactValidDeedSpec.pre6 enc Try.prog Try.f3 Rows.fnExactValidDeedRow.domain false) (Rows.fnExactValidDeedSpec.post enc Try.prog Try.f3 false true false false) := by
  refine returnsInHanded_of_change (C := Try.checked) Try.own started (by kernel_rfl) Try.func3
    (ChangeSpec.witness6 (enc := enc) (C := Try.checked) false ⟨#[], #[.agg #[.int .i64 0, .int .i64 0, .int .i64 0]], []⟩ 8 (by kernel_rfl) (by kernel_rfl) (by kernel_rfl) (by kernel_rfl)) ?_
  intro W base args ds gs before hval hW _ _
  refine contract (P := Try.prog) (fn := Try.f3) Try.mixed Try.laidOut Try.func3 (by kernel_rfl) (by kernel_rfl) (by kernel_rfl) (by kernel_rfl) (t0 := 4) (by kernel_rfl) (by kernel_rfl) rfl ?_ ?_ W base args ds gs before hval hW
  · intro ds hd
    have hp : Try.f3.params.toList = [23] := by kernel_rfl
    rw [hp] at hd
    match ds, hd with
    | [d], _ => rfl
  · intro xs has
    have hp : Try.f3.params.toList = [23] := by kernel_rfl
    rw [hp] at has
    match xs, has with
    | [a], ⟨ha, _⟩ =>
      unfold Typed at ha
      rw [flat23] at ha
      obtain ⟨l, rfl, hl⟩ := ha
      cases hl with
      | cons h1 hl =>
        cases hl with
        | cons h2 hl =>
          cases hl with
          | cons h3 hl =>
            cases hl
            obtain ⟨x, rfl, _⟩ := h1
            obtain ⟨y, rfl, _⟩ := h2
            obtain ⟨z, rfl, _⟩ := h3
            exact ⟨_, _, _, call3 x y z⟩

theorem x_holds : Rows.FnExactValidDeedSaid :=
  OpenClaim.holds_of_wide 3 Try.f3 rfl rfl rfl rfl rfl rfl rfl ⟨rfl, rfl, rfl, rfl, rfl⟩ rfl rfl rfl rfl rfl (by kernel_rfl) Try.func3 (by kernel_rfl)
    (of_decide_eq_true (by kernel_rfl)) (by unfold Func.isWrapper; first | (rw [if_pos (by decide +kernel)]; kernel_rfl) | (rw [if_neg (by decide +kernel)]; exact ⟨rfl, rfl⟩))
    (fun os started H enc _ => x_lifted os started H enc)

end Go.Proofs.Ytdjllbkfbmdlfaa
