/-
  One operation of the evaluator's is one of the run's: all but calls.
-/
import Derived.Test.YtagjabnemfaknaaAe4
namespace Go.AE
set_option linter.unusedVariables false
set_option linter.unusedSimpArgs false

variable {e e' : Emb} {B : Nat} {R h : H} {w w' : World} {P : Program}

theorem run_value {s : Sem Value} {r : Value} {w w' : World} (hr : s.run P w = .ok r w') : (do pure (Next.value (← s)) : Sem Next).run P w = .ok (.value r) w' := by
  simp only [Sem.run_bind, hr, Result.andThen_ok]; rfl

theorem ff_rel (s k : FloatKind) (b : Nat) {r : Nat} (h : ffV s (cn s b) k = some r) (w : World) :
    ∃ x w', (Conv.floatToFloat s b k).run P w = .ok (.float k x) w' ∧ cn k x = r ∧ Drw w w' := by
  unfold ffV at h
  by_cases hk : s = k
  · subst hk
    rw [if_pos rfl] at h
    cases h
    exact ⟨b, w, by simp [Conv.floatToFloat], rfl, Drw.refl w⟩
  · rw [if_neg hk] at h
    cases hn : isn s b with
    | true =>
      have h1 : s.decode (cn s b) = s.decode (qn s) := by rw [cn_of hn]
      rw [h1] at h
      have hq : (s.decode (qn s)).isNaN = true := isn_qn s
      have hb : (s.decode b).isNaN = true := hn
      cases hd : s.decode (qn s) <;> rw [hd] at hq h <;> simp [Ieee.Datum.isNaN] at hq
      simp at h
      subst h
      cases hd2 : s.decode b <;> rw [hd2] at hb <;> simp [Ieee.Datum.isNaN] at hb
      obtain ⟨c1, c2⟩ := cut_nan k (.nanConv k b) (.inr (.inl ⟨b, rfl⟩)) (w.tape w.drawn (.nanConv k b))
      refine ⟨_, _, by simp only [Conv.floatToFloat, if_neg hk, hd2, Sem.run_bind, run_choose c2, Result.andThen_ok]; rfl, cn_of c1, Drw.drew _ _⟩
    | false =>
      rw [cn_of_not hn] at h
      cases hd : s.decode b with
      | nan x y => simp [isn, hd, Ieee.Datum.isNaN] at hn
      | infinity sg =>
        rw [hd] at h; simp at h; subst h
        exact ⟨_, w, by simp [Conv.floatToFloat, hk, hd], cn_of_not (encode_notnan k rfl), Drw.refl w⟩
      | number sg m p =>
        rw [hd] at h
        simp only at h
        split at h
        · cases h
        · rename_i hi
          cases h
          exact ⟨_, w, by simp [Conv.floatToFloat, hk, hd, hi], cn_of_not (encode_notnan k rfl), Drw.refl w⟩

theorem toInt_cn (s : FloatKind) (b : Nat) {n : Int} (h : (s.decode (cn s b)).toInt .zero = some n) : (s.decode b).toInt .zero = some n := by
  cases hn : isn s b with
  | true =>
    rw [cn_of hn] at h
    have hq : (s.decode (qn s)).isNaN = true := isn_qn s
    cases hd : s.decode (qn s) <;> rw [hd] at hq h <;> simp [Ieee.Datum.isNaN] at hq
    simp [Ieee.Datum.toInt, Ieee.Datum.integral] at h
  | false => rwa [cn_of_not hn] at h

theorem mm2_rel (m : Bool) {x y X Y r : Value} (hx : VR e x X) (hy : VR e y Y) (h : mm2 m X Y = some r) (w : World) :
    ∃ v w', ((if m then Builtin.max2 x y else Builtin.min2 x y : Sem Value)).run P w = .ok v w' ∧ VR e v r ∧ Drw w w' := by
  unfold mm2 at h
  split at h
  · have ex := hx.inv_int; have ey := hy.inv_int
    subst ex; subst ey
    cases h
    exact ⟨_, w, by cases m <;> simp [Builtin.max2, Builtin.min2], (CR.int _ _).vr, Drw.refl w⟩
  · rename_i k bx k' by'
    obtain ⟨b1, ex, rfl⟩ := hx.inv_float
    obtain ⟨b2, ey, rfl⟩ := hy.inv_float
    subst ex; subst ey
    split at h
    · rename_i hk
      subst hk
      rw [order_cn] at h
      cases ho : k.format.order b1 b2 with
      | none =>
        rw [ho] at h; simp at h; subst h
        obtain ⟨c1, c2⟩ := cut_nan k (.nanMinMax k m b1 b2) (.inr (.inr ⟨m, b1, b2, rfl⟩)) (w.tape w.drawn (.nanMinMax k m b1 b2))
        refine ⟨.float k ((Question.nanMinMax k m b1 b2).cut (w.tape w.drawn (.nanMinMax k m b1 b2))), { w with drawn := w.drawn + 1 }, ?_, ?_, Drw.drew _ _⟩
        · cases m <;> simp only [Builtin.max2, Builtin.min2, ho, if_true, if_false, Bool.false_eq_true, Sem.run_bind, run_choose c2, Result.andThen_ok] <;> rfl
        · have := CR.float (e := e) k ((Question.nanMinMax k m b1 b2).cut (w.tape w.drawn (.nanMinMax k m b1 b2)))
          rw [cn_of c1] at this
          exact this.vr
      | some od =>
        have n1 : isn k b1 = false := by
          cases hh : isn k b1
          · rfl
          · unfold Ieee.Format.order at ho
            rw [order_nan_l (show (k.format.read _).isNaN = true from hh)] at ho; cases ho
        rw [ho] at h
        rw [show k.decode (cn k b1) = k.decode b1 by rw [cn_of_not n1]] at h
        cases m <;> cases od <;> simp at h <;> subst h
        · exact ⟨.float k b1, w, by simp [Builtin.min2, ho], (CR.float _ _).vr, Drw.refl w⟩
        · refine ⟨.float k (if (k.decode b1).neg then b1 else b2), w, by simp [Builtin.min2, ho], ?_, Drw.refl w⟩
          cases (k.decode b1).neg <;> exact (CR.float _ _).vr
        · exact ⟨.float k b2, w, by simp [Builtin.min2, ho], (CR.float _ _).vr, Drw.refl w⟩
        · exact ⟨.float k b2, w, by simp [Builtin.max2, ho], (CR.float _ _).vr, Drw.refl w⟩
        · refine ⟨.float k (if (k.decode b1).neg then b2 else b1), w, by simp [Builtin.max2, ho], ?_, Drw.refl w⟩
          cases (k.decode b1).neg <;> exact (CR.float _ _).vr
        · exact ⟨.float k b1, w, by simp [Builtin.max2, ho], (CR.float _ _).vr, Drw.refl w⟩
    · cases h
  · cases h

theorem mmL_rel (m : Bool) : ∀ (ys Ys : List Value) (x X r : Value) (w : World), VR e x X → F2 (VR e) ys Ys → mmL m X Ys = some r →
    ∃ v w', ((ys.foldlM (if m then Builtin.max2 else Builtin.min2) x : Sem Value)).run P w = .ok v w' ∧ VR e v r ∧ Drw w w'
  | [], Ys, x, X, r, w, hx, hy, h => by
    cases hy; simp only [mmL] at h; cases h
    exact ⟨x, w, rfl, hx, Drw.refl w⟩
  | y :: ys, Ys, x, X, r, w, hx, hy, h => by
    cases hy with
    | cons h1 h2 =>
      simp only [mmL] at h
      obtain ⟨z, hz, hr⟩ := Option.bind_eq_some_iff.1 h
      obtain ⟨v1, w1, e1, k1, d1⟩ := mm2_rel (P := P) m hx h1 hz w
      obtain ⟨v2, w2, e2, k2, d2⟩ := mmL_rel m ys _ v1 z r w1 k1 h2 hr
      refine ⟨v2, w2, ?_, k2, d1.trans d2⟩
      have e1' : ((if m then Builtin.max2 else Builtin.min2) x y : Sem Value).run P w = .ok v1 w1 := by rw [← e1]; cases m <;> rfl
      simp only [List.foldlM_cons, Sem.run_bind, e1', Result.andThen_ok, e2]

theorem eval_list {a : Act} {fr : Fr} (hfr : ∀ t, VR e (a.tmps.getD t undef) (fr t)) : ∀ {xs ys : List Operand}, trXs xs = some ys → F2 (VR e) (xs.map a.eval) (ys.map (av fr))
  | [], ys, h => by simp only [trXs] at h; cases h; exact .nil
  | x :: xs, ys, h => by
    simp only [trXs] at h
    obtain ⟨y, hy, h⟩ := Option.bind_eq_some_iff.1 h
    obtain ⟨ys', h', rfl⟩ := Option.map_eq_some_iff.1 h
    exact .cons (eval_rel hfr hy) (eval_list hfr h')

/-- A bound of a slice expression. -/
theorem bnd_rel {v V : Value} (hv : VR e v V) {y n : Nat} (h : bnd y V = some n) (code : BoundsCode) (w : World) : (Instr.sliceBound v y code).run P w = .ok n w ∧ n ≤ y := by
  unfold bnd at h
  split at h
  · have := hv.inv_int; subst this
    split at h
    · rename_i hc; cases h
      exact ⟨by simp [Instr.sliceBound, asIntOf, hc], by omega⟩
    · cases h
  · cases h

theorem bounds_rel {a : Act} {fr : Fr} (hfr : ∀ t, VR e (a.tmps.getD t undef) (fr t)) {lo hi lo' hi' : Option Operand} (hl : trXO lo = some lo') (hh : trXO hi = some hi')
    {len cap H L : Nat} (h1 : bndO fr cap len hi' = some H) (h2 : bndO fr H 0 lo' = some L) (b : Bool) (w : World) :
    (Instr.sliceBounds b len cap (lo.map a.eval) (hi.map a.eval) none).run P w = .ok (L, H, cap) w := by
  cases hi with
  | none =>
    simp only [trXO] at hh; cases hh; simp only [bndO] at h1; cases h1
    cases lo with
    | none => simp only [trXO] at hl; cases hl; simp only [bndO] at h2; cases h2; simp [Instr.sliceBounds]
    | some x =>
      simp only [trXO] at hl
      obtain ⟨y, hy, rfl⟩ := Option.map_eq_some_iff.1 hl
      simp only [bndO] at h2
      have k2 := fun code => (bnd_rel (P := P) (eval_rel hfr hy) h2 code w).1
      simp [Instr.sliceBounds, k2]
  | some x1 =>
    simp only [trXO] at hh
    obtain ⟨y1, hy1, rfl⟩ := Option.map_eq_some_iff.1 hh
    simp only [bndO] at h1
    have k1 := fun code => (bnd_rel (P := P) (eval_rel hfr hy1) h1 code w).1
    cases lo with
    | none => simp only [trXO] at hl; cases hl; simp only [bndO] at h2; cases h2; simp [Instr.sliceBounds, k1]
    | some x =>
      simp only [trXO] at hl
      obtain ⟨y, hy, rfl⟩ := Option.map_eq_some_iff.1 hl
      simp only [bndO] at h2
      have k2 := fun code => (bnd_rel (P := P) (eval_rel hfr hy) h2 code w).1
      simp [Instr.sliceBounds, k1, k2]

theorem isn_eq (k : FloatKind) (b : Nat) : isn k b = decide (k.format.infRung < b % k.format.signWeight) := by
  have h1 : k.format.binade ≤ k.format.infRung := by cases k <;> decide +kernel
  rw [isn_read]
  unfold Ieee.Format.read
  dsimp only
  split
  · rename_i hh; simp only [Ieee.Datum.isNaN]; exact (decide_eq_false (by omega)).symm
  · split
    · simp only [Ieee.Datum.isNaN]; exact (decide_eq_false (by omega)).symm
    · split
      · simp only [Ieee.Datum.isNaN]; exact (decide_eq_false (by omega)).symm
      · simp only [Ieee.Datum.isNaN]; exact (decide_eq_true (by omega)).symm

theorem isn_neg (k : FloatKind) (b : Nat) : isn k (Op.negFloat k b) = isn k b := by
  rw [isn_eq, isn_eq]
  have : Op.negFloat k b % k.format.signWeight = b % k.format.signWeight := by
    unfold Op.negFloat Ieee.Format.signWeight
    rw [Nat.xor_mod_two_pow, Nat.mod_self, Nat.xor_zero]
  rw [this]

theorem negFloat_cn (k : FloatKind) (b : Nat) : cn k (Op.negFloat k (cn k b)) = cn k (Op.negFloat k b) := by
  cases h : isn k b
  · rw [cn_of_not h]
  · rw [cn_of h, cn_of (by rw [isn_neg, isn_qn]), cn_of (by rw [isn_neg, h])]

theorem run_eqb {t : TypeId} (hu : P.underlying t = some .bool) (p q : Bool) (w : World) : (Op.equal t (.bool p) (.bool q)).run P w = .ok (p == q) w := by
  unfold Op.equal
  rw [show Op.maxDepth = 9999 + 1 from rfl, Op.equalIn]
  simp only [Sem.run_bind, run_under hu, Result.andThen_ok]
  rfl
theorem run_binb {t : TypeId} (hu : P.underlying t = some .bool) (p q : Bool) (w : World) :
    (binOp .eql t (.bool p) (.bool q)).run P w = .ok (.bool (p == q)) w ∧ (binOp .neq t (.bool p) (.bool q)).run P w = .ok (.bool (!(p == q))) w := by
  constructor
  · have : binOp .eql t (.bool p) (.bool q) = (do pure (.bool (← Op.equal t (.bool p) (.bool q))) : Sem Value) := rfl
    rw [this]
    simp only [Sem.run_bind, run_eqb hu, Result.andThen_ok]; rfl
  · have : binOp .neq t (.bool p) (.bool q) = (do pure (.bool (!(← Op.equal t (.bool p) (.bool q)))) : Sem Value) := rfl
    rw [this]
    simp only [Sem.run_bind, run_eqb hu, Result.andThen_ok]; rfl

theorem AR.spot {p q : Addr} (hp : AR e p q) : p.spot = none := by
  unfold AR at hp
  split at hp
  · exact hp.2.2
  · obtain ⟨_, _, _, h3⟩ := hp; exact h3
  · exact hp.elim

theorem AR.add {p q : Addr} (hp : AR e p q) (n : Nat) : AR e (p.add n) (addA q n) := by
  rw [add_none hp.spot]
  unfold AR at *
  unfold addA
  split at hp
  · rename_i hs; simp only [hs]; exact ⟨hp.1, by rw [hp.2.1], trivial⟩
  · rename_i hs; simp only [hs]
    obtain ⟨b, h1, h2, h3⟩ := hp
    exact ⟨b, h1, by rw [h2, Nat.add_assoc], trivial⟩
  · exact hp.elim

theorem addA_zero (q : Addr) : addA q 0 = q := by cases q; rfl

theorem flat_replicate (z : List Value) (hz : 0 < z.length) (n : Nat) : (List.replicate n z).flatten.toArray = (Array.range (n * z.length)).map (z.toArray[· % z.toArray.size]!) := by
  apply Array.ext
  · simp
  · intro i h1 h2
    simp at h1 h2
    simp
    induction n generalizing i with
    | zero => simp at h1
    | succ n ih =>
      simp only [List.replicate_succ, List.flatten_cons]
      by_cases hi : i < z.length
      · rw [List.getElem_append_left hi, Nat.mod_eq_of_lt hi]
        simp [hi]
      · rw [List.getElem_append_right (by omega)]
        have hlt : i - z.length < n * z.length := by rw [Nat.succ_mul] at h2; omega
        rw [ih (i - z.length) (by simpa using hlt) (by simpa using hlt) hlt hlt]
        congr 1
        rw [← Nat.mod_eq_sub_mod (by omega)]

theorem run_part {t : TypeId} {n : Nat} {sh : Option Nat} (hn : sizeL P t = some n) (hs : shapeL P t = some sh) {cs as : List Value} (hF : F2 (CR e) cs as) {off : Nat} {V : Value}
    (hle : off + n ≤ as.length) (hV : (if sh.isSome then some (Value.agg ((as.drop off).take n).toArray) else as[off]?) = some V) (w : World) :
    ∃ cv, (part t cs.toArray off).run P w = .ok cv w ∧ VR e cv V := by
  obtain ⟨hag, _⟩ := run_shape hs w
  unfold part
  simp only [Sem.run_bind, hag, Result.andThen_ok]
  cases hsh : sh.isSome with
  | true =>
    rw [hsh] at hV
    simp only [if_true, Option.some.injEq] at hV
    subst hV
    refine ⟨.agg ((cs.drop off).take n).toArray, ?_, .base (.agg ((hF.drop off).take n))⟩
    simp only [if_true, Sem.run_bind, run_size hn, Result.andThen_ok]
    simp [List.extract]
  | false =>
    rw [hsh] at hV
    simp only [Bool.false_eq_true, if_false] at hV
    obtain ⟨cv, hc, hr⟩ := hF.get hV
    refine ⟨cv, ?_, hr.vr⟩
    have : cs.toArray[off]? = some cv := by simpa using hc
    simp only [Bool.false_eq_true, if_false, this]
    rfl

set_option maxHeartbeats 1000000 in
theorem sim_op {o : Oper} {op : AOp} (ht : trOp P o = some op) (hnc : ∀ c f, o.op = .call c → c.callee ≠ .value f) {a : Act} {fr : Fr} (hfr : ∀ t, VR e (a.tmps.getD t undef) (fr t))
    (H' : HR B R e h w) {F : Ora} {pw sw : Nat} {v : Value} {s1 : St} (hev : evOp F R op ⟨fr, h, pw, sw⟩ = some (v, s1)) :
    Sim P B R (execOp a.eval o) w e h v s1 := by
  cases hop : o.op <;> simp only [trOp, hop] at ht
  case move x =>
    obtain ⟨y, hy, rfl⟩ := Option.map_eq_some_iff.1 ht
    simp only [evOp] at hev; cases hev
    exact Sim.same H' (Drw.refl w) (by simp only [execOp, hop]; rfl) (eval_rel hfr hy) rfl
  case assign x =>
    obtain ⟨y, hy, rfl⟩ := Option.map_eq_some_iff.1 ht
    simp only [evOp] at hev; cases hev
    exact Sim.same H' (Drw.refl w) (by simp only [execOp, hop]; rfl) (eval_rel hfr hy) rfl
  case pick c x y =>
    obtain ⟨c', hc, ht⟩ := Option.bind_eq_some_iff.1 ht
    obtain ⟨x', hx, ht⟩ := Option.bind_eq_some_iff.1 ht
    obtain ⟨y', hy, rfl⟩ := Option.map_eq_some_iff.1 ht
    simp only [evOp] at hev
    split at hev
    · rename_i t heq
      cases hev
      have kc := eval_rel hfr hc
      rw [heq] at kc
      have ec := kc.inv_bool
      refine Sim.same (cv := if t then a.eval x else a.eval y) H' (Drw.refl w) (by simp only [execOp, hop, ec, asBool]; rfl) ?_ rfl
      cases t
      · exact eval_rel hfr hy
      · exact eval_rel hfr hx
    · cases hev
  case alloc t =>
    obtain ⟨z, hz, rfl⟩ := Option.map_eq_some_iff.1 ht
    simp only [evOp] at hev; cases hev
    obtain ⟨zv, hr, _, hc, ho, _⟩ := run_zero hz w
    refine Sim.new (vs := z) (el := t) (mk := fun p => .pointer (some p)) (mk' := fun p => .pointer (some p)) H' rfl (okC_all ho e) ?_ (fun _ _ _ hp => (CR.ptr hp).vr)
    simp only [execOp, hop, Instr.alloc, newVar, Sem.run_bind, hr, Result.andThen_ok, hc, run_newRow]
    rfl
  case box t x =>
    obtain ⟨y, hy, rfl⟩ := Option.map_eq_some_iff.1 ht
    simp only [evOp] at hev
    split at hev
    · cases hev
    · rename_i v0 hnt
      cases hev
      obtain ⟨hF, hc⟩ := (eval_rel hfr hy).cells (fun vs hvs => hnt _ hvs)
      refine Sim.new (vs := cellsL (a.eval x)) (el := t) (mk := fun p => .pointer (some p)) (mk' := fun p => .pointer (some p)) H' rfl hF ?_ (fun _ _ _ hp => (CR.ptr hp).vr)
      simp only [execOp, hop, Instr.box, newVar, Sem.run_bind, hc, run_newRow, Result.andThen_ok]
      rfl
  case build t parts =>
    split at ht
    · rename_i fs hu
      obtain ⟨z, hz, ht⟩ := Option.bind_eq_some_iff.1 ht
      split at ht
      · rename_i places hp
        obtain ⟨ps, hps, rfl⟩ := Option.map_eq_some_iff.1 ht
        simp only [evOp] at hev
        obtain ⟨cs, hcs, heq⟩ := Option.map_eq_some_iff.1 hev
        cases heq
        obtain ⟨_, _, _, _, ho, _⟩ := run_zero hz w
        obtain ⟨vs, hf, hF⟩ := fill_rel hfr _ _ _ z z cs hps (okC_all ho e) hcs
        refine Sim.same (cv := .agg vs.toArray) H' (Drw.refl w) ?_ (.base (.agg hF)) rfl
        simp only [execOp, hop]
        refine run_value (run_build w t _ _ ?_)
        unfold Program.built
        unfold zeroL at hz
        cases hi : P.info? t with
        | none => simp [hi] at hz
        | some i =>
          simp only [hi, Option.bind_some] at hz
          cases hzz : i.zero with
          | none => simp [hzz] at hz
          | some zv =>
            simp only [hzz, Option.bind_some] at hz
            split at hz
            · cases hz
              simp only [hu, hzz, hp]
              rw [← hf]
              have : zv.cells = (cellsL zv).toArray := by cases zv <;> simp [Value.cells, cellsL]
              rw [this]
              congr 1
              simp
            · cases hz
      · cases ht
    · rename_i n et hu
      obtain ⟨z, hz, ht⟩ := Option.bind_eq_some_iff.1 ht
      obtain ⟨ie, hie, ht⟩ := Option.bind_eq_some_iff.1 ht
      obtain ⟨ps, hps, rfl⟩ := Option.map_eq_some_iff.1 ht
      simp only [evOp] at hev
      obtain ⟨cs, hcs, heq⟩ := Option.map_eq_some_iff.1 hev
      cases heq
      obtain ⟨_, _, _, _, ho, _⟩ := run_zero hz w
      obtain ⟨vs, hf, hF⟩ := fill_rel hfr _ _ _ z z cs hps (okC_all ho e) hcs
      refine Sim.same (cv := .agg vs.toArray) H' (Drw.refl w) ?_ (.base (.agg hF)) rfl
      simp only [execOp, hop]
      refine run_value (run_build w t _ _ ?_)
      unfold Program.built
      unfold zeroL at hz
      cases hi : P.info? t with
      | none => simp [hi] at hz
      | some i =>
        simp only [hi, Option.bind_some] at hz
        cases hzz : i.zero with
        | none => simp [hzz] at hz
        | some zv =>
          simp only [hzz, Option.bind_some] at hz
          split at hz
          · cases hz
            simp only [hu, hzz, hie]
            rw [← hf]
            have : zv.cells = (cellsL zv).toArray := by cases zv <;> simp [Value.cells, cellsL]
            rw [this]
            congr 1
            simp
          · cases hz
    · cases ht
  case makeSlice t len cap =>
    split at ht
    · rename_i et hu
      obtain ⟨z, hz, ht1⟩ := Option.bind_eq_some_iff.1 ht
      obtain ⟨i, hi, ht2⟩ := Option.bind_eq_some_iff.1 ht1
      clear ht ht1
      obtain ⟨ta, hlen, hb, hzl, hop2⟩ : ∃ tt, (len = .tmp tt ∧ cap = .tmp tt) ∧ 0 < i.bytes ∧ 0 < z.length ∧ op = .make i.bytes z (.tmp tt) := by
        cases len <;> first | (cases ht2; done) | skip
        cases cap <;> first | (cases ht2; done) | skip
        simp only at ht2
        split at ht2
        · rename_i hc
          obtain ⟨rfl, q1, q2⟩ := hc
          cases ht2
          exact ⟨_, ⟨rfl, rfl⟩, q1, q2, rfl⟩
        · cases ht2
      obtain ⟨rfl, rfl⟩ := hlen
      subst hop2
      simp only [evOp] at hev
      split at hev
      · rename_i k n hav
        split at hev
        · rename_i hn
          cases hev
          obtain ⟨zv, hr, hzc, hcz, ho, hsz⟩ := run_zero hz w
          have kx := eval_rel (x := .tmp ta) hfr rfl
          rw [hav] at kx
          have ex := kx.inv_int
          have hF0 : F2 (CR e) (List.replicate n.toNat z).flatten (List.replicate n.toNat z).flatten := F2.flatten (F2.replicate (okC_all ho e) n.toNat)
          refine Sim.new (vs := (List.replicate n.toNat z).flatten) (el := et) (mk := fun p => .slice (some p) n.toNat n.toNat) (mk' := fun p => .slice (some p) n.toNat n.toNat) H' rfl hF0 ?_ (fun _ _ _ hp => (CR.slice _ _ hp).vr)
          have hnb : n ≤ 281474976710656 := by
            have h1 : (1 : Int) * n ≤ i.bytes * n := Int.mul_le_mul_of_nonneg_right (by omega) hn.1
            omega
          have hwr : IntKind.i64.wrap n = n := by rw [IntKind.wrap_i64]; omega
          simp only [execOp, hop]
          refine run_value ?_
          have hai : (asInt (.int k n)).run P w = .ok n w := rfl
          have hc1 : decide (n < 0) = false := by simp; omega
          have hc2 : decide ((i.bytes : Int) * n > 2 ^ 48) = false := by
            have : (2 : Int) ^ 48 = 281474976710656 := by decide
            rw [this]; simp; omega
          have hc3 : decide (n > n) = false := by simp
          have hroom : ∀ b : Nat, (askRoom b).run P w = .ok () w := by
            intro b
            unfold askRoom
            split <;> rfl
          rw [flat_replicate z hzl, ex]
          unfold Instr.makeSlice
          simp only [Sem.run_bind, run_under hu, Result.andThen_ok, hai, run_info hi, hwr, hc1, hc2, hc3, Bool.or_false, Bool.false_eq_true, if_false, hroom, run_size hsz]
          by_cases hz0 : n.toNat * z.length = 0
          · have hn0 : n.toNat = 0 := by
              rcases Nat.mul_eq_zero.1 hz0 with h0 | h0
              · exact h0
              · omega
            have hr0 : Array.range 0 = #[] := rfl
            simp only [hn0, Nat.zero_mul, if_true, Sem.run_bind, pure_eq, Sem.run, Result.andThen_ok, run_newRow, hr0]
            simp
          · simp only [if_neg hz0, Sem.run_bind, hr, Result.andThen_ok, hcz, pure_eq, Sem.run, run_newRow]
        · cases hev
      · cases hev
    · cases ht
  case buildSlice t len parts =>
    split at ht
    · rename_i et hu
      obtain ⟨z, hz, ht⟩ := Option.bind_eq_some_iff.1 ht
      obtain ⟨n, hn, ht⟩ := Option.bind_eq_some_iff.1 ht
      split at ht
      · rename_i hle
        obtain ⟨ps, hps, rfl⟩ := Option.map_eq_some_iff.1 ht
        simp only [evOp] at hev
        obtain ⟨cs, hcs, heq⟩ := Option.map_eq_some_iff.1 hev
        cases heq
        obtain ⟨zv, hr, hzc, hc, ho, hsz⟩ := run_zero hz w
        have hnz : n = z.length := by rw [hn] at hsz; exact Option.some.inj hsz
        have hF0 : F2 (CR e) (List.replicate len z).flatten (List.replicate len z).flatten := F2.flatten (F2.replicate (okC_all ho e) len)
        obtain ⟨vs, hf, hF⟩ := fill_rel hfr _ _ _ _ _ cs hps hF0 hcs
        refine Sim.new (vs := vs) (el := et) (mk := fun p => .slice (some p) len len) (mk' := fun p => .slice (some p) len len) H' rfl hF ?_ (fun _ _ _ hp => (CR.slice _ _ hp).vr)
        simp only [execOp, hop]
        refine run_value ?_
        rw [flat_replicate z (by omega)] at hf
        have hsize : ¬ len * n > 2 ^ 24 := by omega
        simp only [Instr.buildSlice, Sem.run_bind, run_under hu, Result.andThen_ok, run_size hn, if_neg hsize]
        by_cases hz0 : len * n = 0
        · have hl0 : len = 0 := by
            rcases Nat.mul_eq_zero.1 hz0 with h0 | h0
            · exact h0
            · omega
          subst hl0
          simp only [Nat.zero_mul, if_true] at hf ⊢
          have e0 : (Array.map (fun x => z.toArray[x % z.toArray.size]!) (Array.range 0)) = Array.map (fun x => (#[] : Array Value)[x % (#[] : Array Value).size]!) (Array.range 0) := by simp
          rw [e0] at hf
          simp only [Array.toList_map, pure_eq, Sem.run, Result.andThen_ok, hf, run_newRow, Sem.run_bind]
        · simp only [if_neg hz0, Sem.run_bind, hr, Result.andThen_ok, hc]
          rw [hnz]
          have hf' := hf
          rw [← hnz] at hf'
          simp only [Array.toList_map, pure_eq, Sem.run, Result.andThen_ok, Sem.run_bind]
          rw [← hnz]
          simp only [hf', hnz.symm ▸ hf, run_newRow, Result.andThen_ok, Sem.run_bind]
          rfl
      · cases ht
    · cases ht
  case load t x =>
    obtain ⟨n, hn, ht⟩ := Option.bind_eq_some_iff.1 ht
    obtain ⟨y, hy, rfl⟩ := Option.map_eq_some_iff.1 ht
    have k := eval_rel hfr hy
    obtain ⟨hag, hsz⟩ := run_shape hn w
    cases n with
    | none =>
      simp only [evOp] at hev
      split at hev
      · rename_i q heq
        rw [heq] at k
        obtain ⟨p, ep, hp⟩ := k.inv_ptr
        obtain ⟨l, hl, hev⟩ := Option.bind_eq_some_iff.1 hev
        obtain ⟨v0, hv0, heq2⟩ := Option.map_eq_some_iff.1 hev
        cases heq2
        obtain ⟨vs, hr, hF, hlen⟩ := H'.loadCells (P := P) hp hl
        obtain ⟨cv, hcv, hcr⟩ := hF.get hv0
        refine Sim.same (cv := cv) H' (Drw.refl w) ?_ hcr.vr rfl
        simp only [execOp, hop]
        refine run_value ?_
        have hl1 : vs.length = 1 := by rw [hF.length, hlen]
        have hvs : vs = [cv] := by
          match vs, hl1 with
          | [x], _ => simp at hcv; rw [hcv]
        subst hvs
        have hload : (Go.load p).run P w = .ok cv w := by
          have hadd : p.add 0 = p := by simp [Addr.add]
          cases hc : (Go.load p).run P w with
          | halt hh w2 => simp [Go.loadCells, loadCellsFrom, hadd, hc] at hr
          | ok x w2 =>
            simp [Go.loadCells, loadCellsFrom, hadd, hc] at hr
            rw [hr.1, hr.2]
        simp only [Instr.loadAt, ep, Instr.sureAddr, Sem.run_bind, pure_eq, Sem.run, Result.andThen_ok, loadVar, hag, Option.isSome_none, Bool.false_eq_true, if_false, hload]
      · cases hev
    | some m =>
      simp only [evOp] at hev
      split at hev
      · rename_i q heq
        rw [heq] at k
        obtain ⟨p, ep, hp⟩ := k.inv_ptr
        obtain ⟨l, hl, heq2⟩ := Option.map_eq_some_iff.1 hev
        cases heq2
        obtain ⟨vs, hr, hF, hlen⟩ := H'.loadCells (P := P) hp hl
        refine Sim.same (cv := .agg vs.toArray) H' (Drw.refl w) ?_ (.base (.agg hF)) rfl
        simp only [execOp, hop]
        refine run_value ?_
        simp only [Instr.loadAt, ep, Instr.sureAddr, Sem.run_bind, pure_eq, Sem.run, Result.andThen_ok, loadVar, hag, Option.isSome_some, if_true, hsz m rfl, hr]
      · cases hev
  case store t x y =>
    obtain ⟨n, hn, ht⟩ := Option.bind_eq_some_iff.1 ht
    obtain ⟨x', hx, ht⟩ := Option.bind_eq_some_iff.1 ht
    obtain ⟨y', hy, rfl⟩ := Option.map_eq_some_iff.1 ht
    have kx := eval_rel hfr hx
    have ky := eval_rel hfr hy
    simp only [evOp] at hev
    split at hev
    · rename_i q heq
      rw [heq] at kx
      obtain ⟨p, ep, hp⟩ := kx.inv_ptr
      split at hev
      · rename_i hc
        obtain ⟨hc1, hc2⟩ := hc
        obtain ⟨h', hw', heq2⟩ := Option.map_eq_some_iff.1 hev
        cases heq2
        have hnt : ∀ vs, av fr y' ≠ .tuple vs := by
          intro vs hvs; rw [hvs] at hc2; simp [cellsL, one] at hc2
        obtain ⟨hF, hcc⟩ := ky.cells hnt
        obtain ⟨w', hr, hH, hB, hcut⟩ := H'.wr (P := P) hp hF hc2 hw'
        refine ⟨.skip, w', e, undef, ?_, .inr ⟨rfl, rfl⟩, Emb.Le.refl e, hH, VR.undef, hB, ?_, fun _ _ => rfl⟩
        · have hs : (a.eval y).cells.size = n := by rw [hcc]; simp [hF.length, hc1]
          simp only [execOp, hop, Instr.storeAt, ep, Instr.sureAddr, Sem.run_bind, pure_eq, Sem.run, Result.andThen_ok, storeVar, run_size hn, hs, ne_eq, not_true_eq_false, if_false]
          rw [hcc]
          simp only [List.toList_toArray] at *
          rw [hr]
          rfl
        · intro L hL hL2 HL
          refine hcut L ?_ HL
          by_cases hfree : (cellsL (av fr y')).all free1 = true
          · exact .inl hfree
          · right
            simp only [hfree, if_false, Bool.false_eq_true] at hL
            omega
      · cases hev
    · cases hev
  case nilCheck x =>
    obtain ⟨y, hy, rfl⟩ := Option.map_eq_some_iff.1 ht
    simp only [evOp] at hev
    split at hev
    · rename_i q heq
      cases hev
      have k := eval_rel hfr hy
      rw [heq] at k
      obtain ⟨p, ep, hp⟩ := k.inv_ptr
      exact Sim.same (cv := .pointer (some p)) H' (Drw.refl w) (by simp only [execOp, hop, ep]; rfl) (CR.ptr hp).vr rfl
    · cases hev
  case binOp bop t x y t' =>
    obtain ⟨x', hx, ht⟩ := Option.bind_eq_some_iff.1 ht
    obtain ⟨y', hy, ht⟩ := Option.bind_eq_some_iff.1 ht
    split at ht
    · rename_i hu
      have kx := eval_rel hfr hx
      have ky := eval_rel hfr hy
      have hrun : ∀ p q, a.eval x = .bool p → a.eval y = .bool q → (bop = .eql ∨ bop = .neq) → (execOp a.eval o).run P w = .ok (.value (.bool (if bop = .neq then !(p == q) else p == q))) w := by
        intro p q ex ey hb
        simp only [execOp, hop, Sem.run_bind, ex, ey]
        rw [run_guard (by simp) (by simp)]
        rcases hb with rfl | rfl
        · simp only [Result.andThen_ok, (run_binb hu p q w).1]; rfl
        · simp only [Result.andThen_ok, (run_binb hu p q w).2]; rfl
      split at ht
      · cases ht
        simp only [evOp] at hev
        split at hev
        · rename_i p q hp hq
          cases hev
          rw [hp] at kx; rw [hq] at ky
          exact Sim.same (cv := .bool (p == q)) H' (Drw.refl w) (by simpa using hrun p q kx.inv_bool ky.inv_bool (.inl rfl)) (CR.bool _).vr rfl
        · cases hev
      · cases ht
        simp only [evOp] at hev
        split at hev
        · rename_i p q hp hq
          cases hev
          rw [hp] at kx; rw [hq] at ky
          exact Sim.same (cv := .bool (!(p == q))) H' (Drw.refl w) (by simpa using hrun p q kx.inv_bool ky.inv_bool (.inr rfl)) (CR.bool _).vr rfl
        · cases hev
      · cases ht
    all_goals first
      | (cases ht
         simp only [evOp] at hev
         obtain ⟨v0, hv0, heq⟩ := Option.map_eq_some_iff.1 hev
         cases heq
         exact sim_bin hop hx hy hfr H' rfl hv0)
      | cases ht
  case unOp uop t x =>
    obtain ⟨y, hy, rfl⟩ := Option.map_eq_some_iff.1 ht
    simp only [evOp] at hev
    obtain ⟨v0, hv0, heq⟩ := Option.map_eq_some_iff.1 hev
    cases heq
    have k := eval_rel hfr hy
    generalize av fr y = Y at k hv0
    unfold unV at hv0
    split at hv0
    · have ex := k.inv_int
      have h1 := pureOf_some hv0
      have h2 : PV v := by
        cases uop <;> simp only [Op.unary, Op.intArith, Op.intBits, stuck, pure_eq, pureOf, Option.some.injEq] at hv0 <;> first | exact .inl ⟨_, _, hv0.symm⟩ | cases hv0
      exact Sim.same H' (Drw.refl w) (by simp only [execOp, hop, ex]; exact run_value (by rw [h1]; rfl)) (h2.cr e).vr rfl
    · have ex := k.inv_bool
      split at hv0
      · cases hv0
        exact Sim.same (cv := .bool _) H' (Drw.refl w) (by simp only [execOp, hop, ex]; exact run_value rfl) (CR.bool _).vr rfl
      · cases hv0
    · obtain ⟨b, ex, rfl⟩ := k.inv_float
      split at hv0
      · cases hv0
        rename_i kk _
        refine Sim.same (cv := .float kk (Op.negFloat kk b)) H' (Drw.refl w) (by simp only [execOp, hop, ex]; exact run_value rfl) ?_ rfl
        rw [negFloat_cn]
        exact (CR.float _ _).vr
      · cases hv0
    · obtain ⟨b1, b2, ex, rfl, rfl⟩ := k.inv_complex
      split at hv0
      · cases hv0
        refine Sim.same (cv := .complex _ (Op.negFloat _ b1) (Op.negFloat _ b2)) H' (Drw.refl w) (by simp only [execOp, hop, ex]; exact run_value rfl) ?_ rfl
        rw [negFloat_cn, negFloat_cn]
        exact (CR.complex _ _ _).vr
      · cases hv0
    · cases hv0
  case convert src dst x =>
    obtain ⟨y, hy, ht⟩ := Option.bind_eq_some_iff.1 ht
    have k := eval_rel hfr hy
    have hgo : ∀ (c : Cv) (v0 : Value), evOp F R (.conv c y) ⟨fr, h, pw, sw⟩ = some (v, s1) →
        ((∃ k d, P.underlying dst = some (.int k) ∧ P.underlying src = some d ∧ c = .toInt k) ∨ (∃ k d, P.underlying dst = some (.float k) ∧ P.underlying src = some d ∧ c = .toFloat k)) →
        Sim P B R (execOp a.eval o) w e h v s1 := by
      intro c _ hev hc
      simp only [evOp] at hev
      obtain ⟨v0, hv0, heq⟩ := Option.map_eq_some_iff.1 hev
      cases heq
      generalize av fr y = Y at k hv0
      unfold cvV at hv0
      split at hv0
      · rename_i kk q n
        have ex := k.inv_int
        cases hv0
        refine Sim.same (cv := .int kk (kk.wrap n)) H' (Drw.refl w) ?_ (CR.int _ _).vr rfl
        simp only [execOp, hop, ex]
        refine run_value ?_
        rcases hc with ⟨k', d, hd, hs, hk⟩ | ⟨k', d, hd, hs, hk⟩
        · cases hk
          simp only [convert, Sem.run_bind, run_under hd, run_under hs, Result.andThen_ok]
          cases d <;> rfl
        · cases hk
      · rename_i kk s b
        obtain ⟨b0, ex, rfl⟩ := k.inv_float
        split at hv0
        · rename_i n hn
          split at hv0
          · rename_i hb
            cases hv0
            refine Sim.same (cv := .int kk n) H' (Drw.refl w) ?_ (CR.int _ _).vr rfl
            simp only [execOp, hop, ex]
            refine run_value ?_
            rcases hc with ⟨k', d, hd, hs, hk⟩ | ⟨k', d, hd, hs, hk⟩
            · cases hk
              have hn' := toInt_cn s b0 hn
              simp only [convert, Sem.run_bind, run_under hd, run_under hs, Result.andThen_ok]
              cases d <;> simp [Conv.floatToInt, hn', hb.1, hb.2]
            · cases hk
          · cases hv0
        · cases hv0
      · rename_i kk q n
        have ex := k.inv_int
        cases hv0
        refine Sim.same (cv := .float kk (kk.nearest n)) H' (Drw.refl w) ?_ ?_ rfl
        · simp only [execOp, hop, ex]
          refine run_value ?_
          rcases hc with ⟨k', d, hd, hs, hk⟩ | ⟨k', d, hd, hs, hk⟩
          · cases hk
          · cases hk
            simp only [convert, Sem.run_bind, run_under hd, run_under hs, Result.andThen_ok]
            cases d <;> rfl
        · have hc0 : cn kk (kk.nearest n) = kk.nearest n := cn_of_not (encode_notnan kk rfl)
          have := CR.float (e := e) kk (kk.nearest n)
          rw [hc0] at this
          exact this.vr
      · rename_i kk s b
        obtain ⟨b0, ex, rfl⟩ := k.inv_float
        obtain ⟨r, hr, rfl⟩ := Option.map_eq_some_iff.1 hv0
        obtain ⟨xx, w', hrun, hcn, hd'⟩ := ff_rel (P := P) s kk b0 hr w
        refine Sim.same (cv := .float kk xx) H' hd' ?_ ?_ rfl
        · simp only [execOp, hop, ex]
          refine run_value ?_
          rcases hc with ⟨k', d, hd, hs, hk⟩ | ⟨k', d, hd, hs, hk⟩
          · cases hk
          · cases hk
            simp only [convert, Sem.run_bind, run_under hd, run_under hs, Result.andThen_ok]
            cases d <;> exact hrun
        · rw [← hcn]; exact (CR.float _ _).vr
      · cases hv0
    split at ht
    all_goals first
      | (rename_i k1 k2 h1 h2; cases ht; exact hgo _ undef hev (.inl ⟨_, _, h2, h1, rfl⟩))
      | (rename_i k1 k2 h1 h2; cases ht; exact hgo _ undef hev (.inr ⟨_, _, h2, h1, rfl⟩))
      | cases ht
  case fieldAddr t x i =>
    obtain ⟨⟨off, n, ag⟩, hf, ht⟩ := Option.bind_eq_some_iff.1 ht
    simp only at ht
    split at ht
    · cases ht
    · rename_i hn0
      obtain ⟨y, hy, rfl⟩ := Option.map_eq_some_iff.1 ht
      simp only [evOp] at hev
      split at hev
      · rename_i q heq
        cases hev
        have k := eval_rel hfr hy
        rw [heq] at k
        obtain ⟨p, ep, hp⟩ := k.inv_ptr
        unfold fieldL at hf
        split at hf
        · rename_i fs hu
          obtain ⟨f, hff, hf⟩ := Option.bind_eq_some_iff.1 hf
          obtain ⟨n', hn, hf⟩ := Option.bind_eq_some_iff.1 hf
          obtain ⟨sh, hsh, heq2⟩ := Option.map_eq_some_iff.1 hf
          cases heq2
          refine Sim.same (cv := .pointer (some (p.add f.offset))) H' (Drw.refl w) ?_ (CR.ptr (hp.add _)).vr rfl
          simp only [execOp, hop, ep]
          refine run_value ?_
          simp only [Instr.fieldAt, Sem.run_bind, run_under hu, Result.andThen_ok, hff, Instr.sureAddr, pure_eq, Sem.run, fieldPlace, run_size hn, if_neg hn0]
        · cases hf
      · cases hev
  case field t x i =>
    obtain ⟨⟨off, n, ag⟩, hf, ht⟩ := Option.bind_eq_some_iff.1 ht
    obtain ⟨y, hy, rfl⟩ := Option.map_eq_some_iff.1 ht
    simp only [evOp] at hev
    split at hev
    · rename_i as heq
      split at hev
      · rename_i hle
        have k := eval_rel hfr hy
        rw [heq] at k
        obtain ⟨cs, ep, hF⟩ := k.inv_agg
        unfold fieldL at hf
        split at hf
        · rename_i fs hu
          obtain ⟨f, hff, hf⟩ := Option.bind_eq_some_iff.1 hf
          obtain ⟨n', hn, hf⟩ := Option.bind_eq_some_iff.1 hf
          obtain ⟨sh, hsh, heq2⟩ := Option.map_eq_some_iff.1 hf
          cases heq2
          have hV : (if sh.isSome then some (Value.agg ((as.toList.drop f.offset).take n).toArray) else as.toList[f.offset]?) = some v ∧ s1.h = h := by
            cases hs : sh.isSome
            · rw [hs] at hev
              simp only [Bool.false_eq_true, if_false] at hev ⊢
              obtain ⟨v0, hv0, heq3⟩ := Option.map_eq_some_iff.1 hev
              cases heq3; exact ⟨hv0, rfl⟩
            · rw [hs] at hev
              simp only [if_true] at hev ⊢
              cases hev; exact ⟨rfl, rfl⟩
          obtain ⟨cv, hr, hvr⟩ := run_part hn hsh hF (by simpa using hle) hV.1 w
          refine Sim.same (cv := cv) H' (Drw.refl w) ?_ hvr hV.2
          simp only [execOp, hop, ep]
          refine run_value ?_
          simp only [Instr.field, Sem.run_bind, run_under hu, Result.andThen_ok, hff, asAgg, pure_eq, Sem.run, hr]
        · cases hf
      · cases hev
    · cases hev
  case indexAddr t x i =>
    obtain ⟨x', hx, ht⟩ := Option.bind_eq_some_iff.1 ht
    obtain ⟨i', hi, ht⟩ := Option.bind_eq_some_iff.1 ht
    have kx := eval_rel hfr hx
    have ki := eval_rel hfr hi
    split at ht
    · rename_i len et hu
      obtain ⟨n, hn, rfl⟩ := Option.map_eq_some_iff.1 ht
      simp only [evOp] at hev
      split at hev
      · rename_i q k j heq heq2
        rw [heq] at kx
        rw [heq2] at ki
        obtain ⟨p, ep, hp⟩ := kx.inv_ptr
        have ei := ki.inv_int
        split at hev
        · rename_i hb
          cases hev
          refine Sim.same (cv := .pointer (some (p.add (j.toNat * n)))) H' (Drw.refl w) ?_ (CR.ptr (hp.add _)).vr rfl
          simp only [execOp, hop, ep, ei]
          refine run_value ?_
          have hb' : 0 ≤ j ∧ j < (len : Int) := hb
          simp only [Instr.indexAt, asIntOf, Sem.run_bind, pure_eq, Sem.run, Result.andThen_ok, run_under hu, Instr.sureAddr]
          by_cases hl : len ≤ 1
          · simp only [hl, if_true, Sem.run_bind, run_under hu, Result.andThen_ok, Sem.run, if_pos hb', run_size hn, decide_true]
          · simp [hl, if_pos hb', run_size hn]
        · cases hev
      · cases hev
    · rename_i et hu
      obtain ⟨n, hn, rfl⟩ := Option.map_eq_some_iff.1 ht
      simp only [evOp] at hev
      split at hev
      · rename_i q len cap k j heq heq2
        rw [heq] at kx
        rw [heq2] at ki
        rcases kx.inv_slice with ⟨h1, _⟩ | ⟨p, q', h1, ep, hp⟩
        · cases h1
        · cases h1
          have ei := ki.inv_int
          split at hev
          · rename_i hb
            cases hev
            refine Sim.same (cv := .pointer (some (p.add (j.toNat * n)))) H' (Drw.refl w) ?_ (CR.ptr (hp.add _)).vr rfl
            simp only [execOp, hop, ep, ei]
            refine run_value ?_
            have hb' : 0 ≤ j ∧ j < (len : Int) := hb
            by_cases hl : len ≤ 1
            · simp [Instr.indexAt, asIntOf, run_under hu, hl, if_pos hb', run_size hn]
            · simp [Instr.indexAt, asIntOf, run_under hu, hl, if_pos hb', run_size hn]
          · cases hev
      · cases hev
    · cases ht
  case index t x i =>
    obtain ⟨x', hx, ht⟩ := Option.bind_eq_some_iff.1 ht
    obtain ⟨i', hi, ht⟩ := Option.bind_eq_some_iff.1 ht
    have kx := eval_rel hfr hx
    have ki := eval_rel hfr hi
    split at ht
    · rename_i len et hu
      obtain ⟨n, hn, ht⟩ := Option.bind_eq_some_iff.1 ht
      obtain ⟨sh, hsh, rfl⟩ := Option.map_eq_some_iff.1 ht
      simp only [evOp] at hev
      split at hev
      · rename_i as k j heq heq2
        rw [heq] at kx
        rw [heq2] at ki
        obtain ⟨cs, ep, hF⟩ := kx.inv_agg
        have ei := ki.inv_int
        split at hev
        · rename_i hb
          obtain ⟨hb1, hb2, hb3⟩ := hb
          have hV : (if sh.isSome then some (Value.agg ((as.toList.drop (j.toNat * n)).take n).toArray) else as.toList[j.toNat * n]?) = some v ∧ s1.h = h := by
            cases hs : sh.isSome
            · rw [hs] at hev
              simp only [Bool.false_eq_true, if_false] at hev ⊢
              obtain ⟨v0, hv0, heq3⟩ := Option.map_eq_some_iff.1 hev
              cases heq3; exact ⟨hv0, rfl⟩
            · rw [hs] at hev
              simp only [if_true] at hev ⊢
              cases hev; exact ⟨rfl, rfl⟩
          obtain ⟨cv, hr, hvr⟩ := run_part hn hsh hF (by rw [Nat.succ_mul] at hb3; simpa using hb3) hV.1 w
          refine Sim.same (cv := cv) H' (Drw.refl w) ?_ hvr hV.2
          simp only [execOp, hop, ep, ei]
          refine run_value ?_
          have hb' : 0 ≤ j ∧ j < (len : Int) := ⟨hb1, hb2⟩
          simp only [Instr.index, asIntOf, Sem.run_bind, pure_eq, Sem.run, Result.andThen_ok, run_under hu, if_pos hb', run_size hn, hr]
        · cases hev
      · cases hev
    · cases ht
  case extract x i =>
    obtain ⟨y, hy, rfl⟩ := Option.map_eq_some_iff.1 ht
    simp only [evOp] at hev
    split at hev
    · rename_i vs heq
      obtain ⟨v0, hv0, heq2⟩ := Option.map_eq_some_iff.1 hev
      cases heq2
      have k := eval_rel hfr hy
      rw [heq] at k
      obtain ⟨cs, ep, hF⟩ := k.inv_tuple
      obtain ⟨cv, hc, hr⟩ := hF.get (by simpa using hv0 : vs.toList[i]? = some v)
      refine Sim.same (cv := cv) H' (Drw.refl w) ?_ (.base hr) rfl
      simp only [execOp, hop, ep]
      refine run_value ?_
      have : cs.toArray[i]? = some cv := by simpa using hc
      simp only [Instr.extract, this]
      rfl
    · cases hev
  case slice t x lo hi mx =>
    cases mx with
    | some m => cases ht
    | none =>
      obtain ⟨x', hx, ht⟩ := Option.bind_eq_some_iff.1 ht
      obtain ⟨lo', hlo, ht⟩ := Option.bind_eq_some_iff.1 ht
      obtain ⟨hi', hhi, ht⟩ := Option.bind_eq_some_iff.1 ht
      have kx := eval_rel hfr hx
      split at ht
      · rename_i et hu
        obtain ⟨n, hn, rfl⟩ := Option.map_eq_some_iff.1 ht
        simp only [evOp] at hev
        split at hev
        · rename_i q len cap heq
          rw [heq] at kx
          obtain ⟨H1, hH1, hev⟩ := Option.bind_eq_some_iff.1 hev
          obtain ⟨L1, hL1, heq2⟩ := Option.map_eq_some_iff.1 hev
          cases heq2
          have hb := bounds_rel (P := P) hfr hlo hhi hH1 hL1 true w
          rcases kx.inv_slice with ⟨h1, ep⟩ | ⟨p, q', h1, ep, hp⟩
          · subst h1
            refine Sim.same (cv := .slice none (H1 - L1) (cap - L1)) H' (Drw.refl w) ?_ ?_ rfl
            · simp only [execOp, hop, ep]
              refine run_value ?_
              simp only [Instr.sliceAt, Sem.run_bind, run_under hu, Result.andThen_ok, Instr.slice, Option.map_none, hb, run_size hn]
              split <;> rfl
            · have : (if cap = L1 then (none : Option Addr) else none.map (addA · (L1 * n))) = none := by split <;> rfl
              simp only [this]
              exact (CR.nils _ _).vr
          · subst h1
            refine Sim.same (cv := .slice (if cap = L1 then some p else some (p.add (L1 * n))) (H1 - L1) (cap - L1)) H' (Drw.refl w) ?_ ?_ rfl
            · simp only [execOp, hop, ep]
              refine run_value ?_
              simp only [Instr.sliceAt, Sem.run_bind, run_under hu, Result.andThen_ok, Instr.slice, Option.map_none, hb, run_size hn]
              split <;> rfl
            · split
              · exact (CR.slice _ _ hp).vr
              · exact (CR.slice _ _ (hp.add _)).vr
        · cases hev
      · rename_i len et hu
        obtain ⟨n, hn, rfl⟩ := Option.map_eq_some_iff.1 ht
        simp only [evOp] at hev
        split at hev
        · rename_i q heq
          rw [heq] at kx
          obtain ⟨H1, hH1, hev⟩ := Option.bind_eq_some_iff.1 hev
          obtain ⟨L1, hL1, heq2⟩ := Option.map_eq_some_iff.1 hev
          cases heq2
          have hb := bounds_rel (P := P) hfr hlo hhi hH1 hL1 false w
          obtain ⟨p, ep, hp⟩ := kx.inv_ptr
          refine Sim.same (cv := .slice (some (if len = L1 then p else p.add (L1 * n))) (H1 - L1) (len - L1)) H' (Drw.refl w) ?_ ?_ rfl
          · simp only [execOp, hop, ep]
            refine run_value ?_
            simp only [Instr.sliceAt, Sem.run_bind, run_under hu, Result.andThen_ok, Instr.sureAddr, pure_eq, Sem.run, Option.map_none, hb, run_size hn]
          · split
            · exact (CR.slice _ _ hp).vr
            · exact (CR.slice _ _ (hp.add _)).vr
        · cases hev
      · cases ht
  case call c =>
    split at ht
    · rename_i hcv
      exact absurd hcv (hnc _ _ hop)
    · rename_i b hb
      obtain ⟨xs, hxs, ht⟩ := Option.bind_eq_some_iff.1 ht
      have hL := eval_list hfr hxs
      have hargs : (c.args.map a.eval).toList = c.args.toList.map a.eval := by simp
      have hrun : ∀ s : Sem Value, (∀ ty cs, builtin b c.argTypes ty cs (c.args.map a.eval) = (do pure (.value (← s)))) → ∀ r w', s.run P w = .ok r w' → (execOp a.eval o).run P w = .ok (.value r) w' := by
        intro s hs r w' hr
        simp only [execOp, hop, resolve, hb, pure_eq, Sem.run_bind, Sem.run, Result.andThen_ok, invoke]
        rw [hs]
        exact run_value hr
      have hget : ∀ (i : Nat) (v : Value), (c.args.toList.map a.eval)[i]? = some v → (c.args.map a.eval)[i]? = some v := by
        intro i v hv
        have := hargs ▸ hv
        simpa using this
      split at ht
      · rename_i x _
        have harg0 : ∃ V, (c.args.map a.eval)[0]? = some V ∧ VR e V (av fr x) := by
          cases hL' : c.args.toList.map a.eval with
          | nil => rw [hL'] at hL; cases hL
          | cons v l =>
            rw [hL'] at hL
            cases hL with
            | cons h1 _ => exact ⟨v, hget 0 v (by rw [hL']; rfl), h1⟩
        obtain ⟨V, hV, kV⟩ := harg0
        have hlen : ∃ n : Nat, v = .int .i64 n ∧ s1.h = h ∧ ∃ t0, c.argTypes[0]? = some t0 ∧ (Builtin.len_ c.argTypes 0 (c.args.map a.eval)).run P w = .ok (.int .i64 n) w := by
          split at ht
          all_goals first
            | cases ht; done
            | skip
          · rename_i hu
            cases ht
            obtain ⟨t0, ht0, hu0⟩ := Option.bind_eq_some_iff.1 hu
            simp only [evOp] at hev
            split at hev
            · rename_i sa n cp heq
              cases hev
              rw [heq] at kV
              refine ⟨n, rfl, rfl, t0, ht0, ?_⟩
              rcases kV.inv_slice with ⟨h1, ep⟩ | ⟨p, q', h1, ep, hp⟩ <;> subst ep <;> simp [Builtin.len_, ht0, hV, run_under hu0, goInt]
            · cases hev
          · rename_i hu
            cases ht
            obtain ⟨t0, ht0, hu0⟩ := Option.bind_eq_some_iff.1 hu
            simp only [evOp] at hev
            split at hev
            · rename_i bs heq
              cases hev
              rw [heq] at kV
              have ep := kV.inv_string
              subst ep
              exact ⟨bs.size, rfl, rfl, t0, ht0, by simp [Builtin.len_, ht0, hV, run_under hu0, goInt]⟩
            · cases hev
        obtain ⟨n, rfl, hh, t0, ht0, hr⟩ := hlen
        refine Sim.same (cv := .int .i64 n) H' (Drw.refl w) (hrun (Builtin.len_ c.argTypes 0 (c.args.map a.eval)) (fun _ _ => rfl) _ _ hr) (CR.int _ _).vr hh
      · rename_i x y
        cases ht
        cases hL' : c.args.toList.map a.eval with
        | nil => rw [hL'] at hL; cases hL
        | cons v1 l1 =>
          rw [hL'] at hL
          cases hL with
          | cons k1 hL2 => cases hL2 with
            | cons k2 hL3 => cases hL3 with
              | nil =>
                rename_i v2
                have ha : c.args.map a.eval = #[v1, v2] := by
                  exact Array.ext' (by rw [hargs, hL'])
                simp only [evOp] at hev
                split at hev
                · rename_i k b k' b' heq heq2
                  rw [heq] at k1; rw [heq2] at k2
                  obtain ⟨x1, e1, rfl⟩ := k1.inv_float
                  obtain ⟨x2, e2, rfl⟩ := k2.inv_float
                  split at hev
                  · rename_i hk
                    subst hk
                    cases hev
                    refine Sim.same (cv := .complex k x1 x2) H' (Drw.refl w) (hrun _ (fun _ _ => rfl) _ w ?_) (CR.complex _ _ _).vr rfl
                    rw [ha, e1, e2]
                    show (if k = k then (pure (.complex k x1 x2) : Sem Value) else stuck _).run P w = _
                    rw [if_pos rfl]
                    rfl
                  · cases hev
                · cases hev
      · rename_i x
        cases ht
        cases hL' : c.args.toList.map a.eval with
        | nil => rw [hL'] at hL; cases hL
        | cons v1 l1 =>
          rw [hL'] at hL
          cases hL with
          | cons k1 hL2 => cases hL2 with
            | nil =>
              have ha : c.args.map a.eval = #[v1] := by
                exact Array.ext' (by rw [hargs, hL'])
              simp only [evOp] at hev
              split at hev
              · rename_i k b b' heq
                rw [heq] at k1
                obtain ⟨x1, x2, e1, rfl, rfl⟩ := k1.inv_complex
                cases hev
                refine Sim.same (cv := .float k x1) H' (Drw.refl w) (hrun _ (fun _ _ => rfl) _ w ?_) (CR.float _ _).vr rfl
                rw [ha, e1]
                rfl
              · cases hev
      · rename_i x
        cases ht
        cases hL' : c.args.toList.map a.eval with
        | nil => rw [hL'] at hL; cases hL
        | cons v1 l1 =>
          rw [hL'] at hL
          cases hL with
          | cons k1 hL2 => cases hL2 with
            | nil =>
              have ha : c.args.map a.eval = #[v1] := by
                exact Array.ext' (by rw [hargs, hL'])
              simp only [evOp] at hev
              split at hev
              · rename_i k b b' heq
                rw [heq] at k1
                obtain ⟨x1, x2, e1, rfl, rfl⟩ := k1.inv_complex
                cases hev
                refine Sim.same (cv := .float k x2) H' (Drw.refl w) (hrun _ (fun _ _ => rfl) _ w ?_) (CR.float _ _).vr rfl
                rw [ha, e1]
                rfl
              · cases hev
      · cases ht
        simp only [evOp] at hev
        split at hev
        · cases hev
        · rename_i x l
          obtain ⟨v0, hv0, heq⟩ := Option.map_eq_some_iff.1 hev
          cases heq
          cases hL' : c.args.toList.map a.eval with
          | nil => rw [hL'] at hL; cases hL
          | cons v1 l1 =>
            rw [hL'] at hL
            cases hL with
            | cons k1 hL2 =>
              obtain ⟨cv, w', hr, kr, hd⟩ := mmL_rel (P := P) false l1 _ v1 _ v w k1 hL2 hv0
              refine Sim.same (cv := cv) H' hd (hrun (Builtin.min_ c.argTypes 0 (c.args.map a.eval)) (fun _ _ => rfl) _ _ ?_) kr rfl
              simp only [Builtin.min_, hargs, hL']
              exact hr
      · cases ht
        simp only [evOp] at hev
        split at hev
        · cases hev
        · rename_i x l
          obtain ⟨v0, hv0, heq⟩ := Option.map_eq_some_iff.1 hev
          cases heq
          cases hL' : c.args.toList.map a.eval with
          | nil => rw [hL'] at hL; cases hL
          | cons v1 l1 =>
            rw [hL'] at hL
            cases hL with
            | cons k1 hL2 =>
              obtain ⟨cv, w', hr, kr, hd⟩ := mmL_rel (P := P) true l1 _ v1 _ v w k1 hL2 hv0
              refine Sim.same (cv := cv) H' hd (hrun (Builtin.max_ c.argTypes 0 (c.args.map a.eval)) (fun _ _ => rfl) _ _ ?_) kr rfl
              simp only [Builtin.max_, hargs, hL']
              exact hr
      · cases ht
    · cases ht
  all_goals cases ht

end Go.AE
