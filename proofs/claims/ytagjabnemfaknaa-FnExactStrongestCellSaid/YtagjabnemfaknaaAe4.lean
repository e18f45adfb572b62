/-
  One operation of the evaluator's is one of the run's (calls apart): operation by operation.
-/
import Derived.Test.YtagjabnemfaknaaAe3
import Derived.Laws.Tables
namespace Go.AE
set_option linter.unusedVariables false
set_option linter.unusedSimpArgs false

variable {e e' : Emb} {B : Nat} {R h : H} {w w' : World} {P : Program}

/-- What an operation owes. -/
def Sim (P : Program) (B : Nat) (R : H) (s : Sem Next) (w : World) (e : Emb) (h : H) (v : Value) (s1 : St) : Prop :=
  ∃ x w' e' cv, s.run P w = .ok x w' ∧ (x = .value cv ∨ (x = .skip ∧ cv = undef)) ∧ e.Le e' ∧ HR B R e' s1.h w' ∧ VR e' cv v ∧ Blw B w w' ∧
    (∀ L, L ≤ s1.pw → L ≤ h.length → HR B R (e.cut L) h w → HR B R (e'.cut L) s1.h w') ∧ (∀ i, i < h.length → e'.φ i = e.φ i)

/-- Nothing but a value. -/
theorem Sim.same {s : Sem Next} {s1 : St} {cv v : Value} (H' : HR B R e h w) (hd : Drw w w') (hr : s.run P w = .ok (.value cv) w') (hv : VR e cv v) (hh : s1.h = h) : Sim P B R s w e h v s1 :=
  ⟨_, w', e, cv, hr, .inl rfl, Emb.Le.refl e, hh ▸ H'.drw hd, hv, hd.blw B, fun L _ _ HL => hh ▸ HL.drw hd, fun _ _ => rfl⟩

theorem Emb.cut_add {L : Nat} (hL : L ≤ h.length) (b : Nat) : (e.add h.length b).cut L = e.cut L := by
  unfold Emb.add Emb.cut
  congr 1
  funext i
  simp only
  split
  · rw [if_neg (by omega)]
  · rfl

theorem HR.more (H' : HR B R e h w) (x : H) : HR B R e (h ++ x) w := by
  refine ⟨fun i b hi => ?_, H'.inj, H'.ro, H'.size⟩
  obtain ⟨cs, hc, r⟩ := H'.dom _ _ hi
  exact ⟨cs, by rw [List.getElem?_append_left (List.getElem?_eq_some_iff.1 hc).1]; exact hc, r⟩

theorem HR.fresh (H' : HR B R e h w) : ∀ i b, e.φ i = some b → i < h.length := fun i b hi => by
  obtain ⟨cs, hc, _⟩ := H'.dom _ _ hi
  exact (List.getElem?_eq_some_iff.1 hc).1

/-- A new block, and its address. -/
theorem Sim.new {s : Sem Next} {vs as : List Value} {el : TypeId} {st : St} {mk : Addr → Value} {mk' : Addr → Value} (H' : HR B R e h w) (hst : st.h = h) (hv : F2 (CR e) vs as)
    (hr : s.run P w = .ok (.value (mk ⟨w.heap.size, 0, none⟩)) (w.alloc (.cells vs.toArray el)))
    (hm : ∀ e' p q, AR e' p q → VR e' (mk p) (mk' q)) : Sim P B R s w e h (mk' (here st)) (new st as) := by
  obtain ⟨h1, h2⟩ := H'.alloc hv el H'.fresh
  refine ⟨_, _, e.add h.length w.heap.size, _, hr, .inl rfl, h2, by simpa [Go.AE.new, hst] using h1, hm _ _ _ ?_, ?_, ?_, fun i hi => by unfold Emb.add; simp only; rw [if_neg (by omega)]⟩
  · unfold AR here
    simp [hst, Emb.add]
  · exact (RowKit.Below.refl _ _).alloc H'.size _
  · intro L _ hL HL
    rw [Emb.cut_add hL]
    simp only [Go.AE.new, hst]
    exact (HL.more _).grow (fun b hb => RowKit.Below.heap_alloc _ _ _ hb) (by show _ ≤ (w.heap.push _).size; simp)

theorem run_newRow (el : TypeId) (c : Array Value) (w : World) : (newRow el c).run P w = .ok ⟨w.heap.size, 0, none⟩ (w.alloc (.cells c el)) := by
  rfl

theorem foldl_lay (off : Nat) : ∀ (l : List Value) (k : Nat) (cs : List Value), (l.zipIdx k).foldl (fun (a : Array Value) (x : Value × Nat) => a.setIfInBounds (off + x.2) x.1) cs.toArray = (layL cs (off + k) l).toArray
  | [], k, cs => by simp [layL]
  | v :: l, k, cs => by
    simp only [List.zipIdx_cons, List.foldl_cons, List.setIfInBounds_toArray, layL]
    rw [foldl_lay off l (k + 1)]
    rfl

theorem fill_rel {a : Act} {fr : Fr} (hfr : ∀ t, VR e (a.tmps.getD t undef) (fr t)) (place : Nat → Option (Nat × Nat)) : ∀ (ps : List (Nat × Operand)) (qs : List (Nat × Nat × Operand)) (zc za as : List Value),
    trParts place ps = some qs → F2 (CR e) zc za → fillL fr za qs = some as →
    ∃ cs : List Value, Instr.fill place zc.toArray (ps.map fun (i, x) => (i, a.eval x)) = some cs.toArray ∧ F2 (CR e) cs as
  | [], qs, zc, za, as, ht, hz, hf => by
    simp only [trParts] at ht; cases ht
    simp only [fillL] at hf; cases hf
    exact ⟨zc, rfl, hz⟩
  | (i, x) :: ps, qs, zc, za, as, ht, hz, hf => by
    simp only [trParts] at ht
    cases hp : place i with
    | none => simp [hp] at ht
    | some os =>
      obtain ⟨off, size⟩ := os
      cases hx : trX x with
      | none => simp [hp, hx] at ht
      | some y =>
        cases hq : trParts place ps with
        | none => simp [hp, hx, hq] at ht
        | some qs' =>
          simp [hp, hx, hq] at ht
          subst ht
          simp only [fillL] at hf
          split at hf
          · rename_i hc
            obtain ⟨h1, h2, h3⟩ := hc
            have hv := eval_rel hfr hx
            have hnt : ∀ vs, av fr y ≠ .tuple vs := by
              intro vs hvs; rw [hvs] at h3; simp [cellsL, one] at h3
            obtain ⟨hcells, hcc⟩ := hv.cells hnt
            have hl1 : (cellsL (a.eval x)).length = size := by rw [hcells.length, h1]
            have hl2 : zc.length = za.length := hz.length
            obtain ⟨cs, hcs, hF⟩ := fill_rel hfr place ps qs' (splice zc off (cellsL (a.eval x))) _ as hq (hz.splice hcells off) hf
            refine ⟨cs, ?_, hF⟩
            simp only [List.map_cons, Instr.fill, hp, hcc]
            have : ((cellsL (a.eval x)).toArray.size ≠ size || off + (cellsL (a.eval x)).toArray.size > zc.toArray.size) = false := by
              simp [hl1]; omega
            rw [if_neg (by simpa using this)]
            have hfold := foldl_lay off (cellsL (a.eval x)) 0 zc
            rw [layL_eq _ _ _ (by omega)] at hfold
            simp only [Nat.add_zero] at hfold
            rw [← hcs, ← hfold]
            congr 1
            rw [show (cellsL (a.eval x)).toArray.zipIdx = ((cellsL (a.eval x)).zipIdx 0).toArray from by simp]
            simp
          · cases hf

/-! ### Values that are handed on as they are -/
def PV (v : Value) : Prop := (∃ k n, v = .int k n) ∨ (∃ b, v = .bool b) ∨ (∃ s, v = .string s)
theorem PV.cr {v : Value} (h : PV v) (e : Emb) : CR e v v := by
  rcases h with ⟨k, n, rfl⟩ | ⟨b, rfl⟩ | ⟨s, rfl⟩ <;> constructor
theorem pureOf_some {α : Type} {s : Sem α} {v : α} (h : pureOf s = some v) : s = .pure v := by
  cases s <;> simp [pureOf] at h; rw [h]

theorem pure_eq {α : Type} (a : α) : (pure a : Sem α) = Sem.pure a := rfl

theorem bin_int {op : BinOp} {k k' : IntKind} {a b : Int} {v : Value} (h : pureOf (binOp op 0 (.int k a) (.int k' b)) = some v) (t : TypeId) :
    binOp op t (.int k a) (.int k' b) = .pure v ∧ PV v := by
  have h1 := pureOf_some h
  have h2 : binOp op t (.int k a) (.int k' b) = binOp op 0 (.int k a) (.int k' b) := by cases op <;> rfl
  refine ⟨h2.trans h1, ?_⟩
  clear h2
  by_cases hs : op = .shl ∨ op = .shr
  · rcases hs with rfl | rfl <;>
    · simp only [binOp, Op.shift] at h
      split at h
      · cases h
      · simp only [pure_eq, pureOf, Option.some.injEq] at h
        exact .inl ⟨_, _, h.symm⟩
  · by_cases hk : k = k'
    · subst hk
      cases op <;> simp only [binOp, ne_eq, not_true_eq_false, if_false, Op.intArith, Op.intDiv, Op.intBits, Op.intCmp, pure_eq, pureOf, Option.some.injEq] at h <;>
        first
        | exact .inl ⟨_, _, h.symm⟩
        | exact .inr (.inl ⟨_, h.symm⟩)
        | skip
      all_goals first
        | (simp at hs; done)
        | (by_cases hb : b = 0
           · rw [if_pos hb] at h
             exact nomatch (show (none : Option Value) = some v from h)
           · rw [if_neg hb] at h
             exact .inl ⟨_, _, (Option.some.inj h).symm⟩)
    · cases op <;> first
        | (simp at hs; done)
        | (simp [binOp, hk, stuck, pureOf] at h; done)

theorem bin_string {op : BinOp} {a b : ByteArray} {v : Value} (h : pureOf (Op.stringOp op a b) = some v) (t : TypeId) :
    binOp op t (.string a) (.string b) = .pure v ∧ PV v := by
  have h1 := pureOf_some h
  refine ⟨by rw [← h1]; cases op <;> rfl, ?_⟩
  cases op <;> simp only [Op.stringOp, pure_eq, pureOf, stuck, Option.some.injEq] at h <;>
    first
    | exact .inr (.inl ⟨_, h.symm⟩)
    | (cases h; done)
    | skip
  by_cases hb : ((a.size + b.size : Nat) : Int) > IntKind.i64.max
  · rw [if_pos hb] at h
    exact nomatch (show (none : Option Value) = some v from h)
  · rw [if_neg hb] at h
    exact .inr (.inr ⟨_, (Option.some.inj h).symm⟩)

theorem run_guard {op : BinOp} {t : TypeId} {x y : Operand} {a b : Value} (h : ∀ c, a ≠ .agg c) (h' : a ≠ .nilIface) (w : World) : (eqGuard op t x y a b).run P w = .ok () w := by
  unfold eqGuard
  cases op <;> cases a <;> first | rfl | exact absurd rfl (h _) | exact absurd rfl h'

theorem sim_bin {o : Oper} {a : Act} {op : BinOp} {t t' : TypeId} {x y x' y' : Operand} {fr : Fr} (hop : o.op = .binOp op t x y t') (hx : trX x = some x') (hy : trX y = some y')
    (hfr : ∀ t, VR e (a.tmps.getD t undef) (fr t)) (H' : HR B R e h w) {v : Value} {s1 : St} (hh : s1.h = h) (hv : binV op (av fr x') (av fr y') = some v) :
    Sim P B R (execOp a.eval o) w e h v s1 := by
  have kx := eval_rel hfr hx
  have ky := eval_rel hfr hy
  have hrun : ∀ r w', (∀ c, a.eval x ≠ .agg c) → a.eval x ≠ .nilIface → (binOp op t (a.eval x) (a.eval y)).run P w = .ok r w' → (execOp a.eval o).run P w = .ok (.value r) w' := by
    intro r w' h1 h2 hr
    simp only [execOp, hop, Sem.run_bind, run_guard h1 h2, Result.andThen_ok, hr]
    rfl
  generalize hX : av fr x' = X at *
  generalize hY : av fr y' = Y at *
  unfold binV at hv
  split at hv
  · have ex := kx.inv_int; have ey := ky.inv_int
    obtain ⟨h1, h2⟩ := bin_int hv t
    refine Sim.same H' (Drw.refl w) (hrun v w (by simp [ex]) (by simp [ex]) ?_) (h2.cr e).vr hh
    rw [ex, ey, h1]; rfl
  · rename_i k b k' b'
    obtain ⟨bx, ex, rfl⟩ := kx.inv_float
    obtain ⟨by', ey, rfl⟩ := ky.inv_float
    split at hv
    · rename_i hk
      subst hk
      split at hv
      · rename_i ha
        cases hv
        obtain ⟨r, w', hr, hc, hd⟩ := run_far (P := P) ha k bx by' w
        refine Sim.same (cv := .float k r) H' hd (hrun _ _ (by simp [ex]) (by simp [ex]) ?_) ?_ hh
        · rw [ex, ey, ← hr]
          cases op <;> simp [isArith] at ha <;> simp [binOp]
        · rw [← hc]; exact (CR.float k r).vr
      · rename_i ha
        have h1 := pureOf_some hv
        have h3 : Op.floatCmp op k (cn k bx) (cn k by') = Op.floatCmp op k bx by' := by unfold Op.floatCmp; simp only [order_cn]
        rw [h3] at h1 hv
        have h2 : PV v := by
          cases op <;> simp [isArith] at ha <;> simp only [Op.floatCmp, pure_eq, pureOf, stuck, Option.some.injEq] at hv <;> first | exact .inr (.inl ⟨_, hv.symm⟩) | cases hv
        refine Sim.same H' (Drw.refl w) (hrun v w (by simp [ex]) (by simp [ex]) ?_) (h2.cr e).vr hh
        have : binOp op t (a.eval x) (a.eval y) = Op.floatCmp op k bx by' := by
          rw [ex, ey]; cases op <;> simp [isArith] at ha <;> simp [binOp]
        rw [this, h1]; rfl
    · cases hv
  · have ex := kx.inv_string; have ey := ky.inv_string
    obtain ⟨h1, h2⟩ := bin_string hv t
    refine Sim.same H' (Drw.refl w) (hrun v w (by simp [ex]) (by simp [ex]) ?_) (h2.cr e).vr hh
    rw [ex, ey, h1]; rfl
  · rename_i k b1 b2 k' c1 c2
    obtain ⟨x1, x2, ex, rfl, rfl⟩ := kx.inv_complex
    obtain ⟨y1, y2, ey, rfl, rfl⟩ := ky.inv_complex
    split at hv
    · rename_i hk
      subst hk
      have hb : ∀ op, binOp op t (a.eval x) (a.eval y) = Op.complexOp op k x1 x2 y1 y2 := by
        intro op; rw [ex, ey]; cases op <;> simp [binOp]
      split at hv
      · cases hv
        refine Sim.same (cv := .bool _) H' (Drw.refl w) (hrun _ w (by simp [ex]) (by simp [ex]) ?_) (CR.bool _).vr hh
        rw [hb]
        simp only [order_cn]
        cases h1 : (k.format.order x1 y1 == some .eq) <;> simp [Op.complexOp, Op.Complex.cmp, Op.floatCmp, asBool, h1]
      · cases hv
        refine Sim.same (cv := .bool _) H' (Drw.refl w) (hrun _ w (by simp [ex]) (by simp [ex]) ?_) (CR.bool _).vr hh
        rw [hb]
        simp only [order_cn]
        cases h1 : (k.format.order x1 y1 == some .eq) <;> simp [Op.complexOp, Op.Complex.cmp, Op.floatCmp, asBool, h1]
      · split at hv
        · rename_i ha
          cases hv
          have har : isArith op = true := by cases op <;> simp [isAddSub] at ha <;> rfl
          obtain ⟨r1, w1, hr1, hc1, hd1⟩ := run_far (P := P) har k x1 y1 w
          obtain ⟨r2, w2, hr2, hc2, hd2⟩ := run_far (P := P) har k x2 y2 w1
          refine Sim.same (cv := .complex k r1 r2) H' (hd1.trans hd2) (hrun _ _ (by simp [ex]) (by simp [ex]) ?_) ?_ hh
          · rw [hb]
            cases op <;> simp [isAddSub] at ha <;> simp [Op.complexOp, Op.Complex.arith, hr1, hr2]
          · rw [← hc1, ← hc2]; exact (CR.complex k r1 r2).vr
        · cases hv
    · cases hv
  · cases hv

end Go.AE
