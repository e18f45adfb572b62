/-
  Calls, statements in their order, and what a run of them leaves.
-/
import Derived.Test.YtagjabnemfaknaaAe6
namespace Go.AE
set_option linter.unusedVariables false
set_option linter.unusedSimpArgs false

variable {e e' : Emb} {B : Nat} {R h : H} {w w' : World} {P : Program}

/-! ### What the evaluator leaves of the blocks that there were -/
structure Lvs (h h' : H) (pw sw : Nat) : Prop where
  len : h.length ≤ h'.length
  old : ∀ L, L ≤ sw → L ≤ h.length → h'.take L = h.take L
def LvsF (F : Ora) : Prop := ∀ f as h v h' pw sw, F f as h = some (v, h', pw, sw) → Lvs h h' pw sw

structure LvsS (s s' : St) : Prop where
  len : s.h.length ≤ s'.h.length
  pw : s'.pw ≤ s.pw
  sw : s'.sw ≤ s.sw
  old : ∀ L, L ≤ s'.sw → L ≤ s.h.length → s'.h.take L = s.h.take L
theorem LvsS.refl (s : St) : LvsS s s := ⟨Nat.le_refl _, Nat.le_refl _, Nat.le_refl _, fun _ _ _ => rfl⟩
theorem LvsS.trans {a b c : St} (h : LvsS a b) (k : LvsS b c) : LvsS a c :=
  ⟨Nat.le_trans h.len k.len, Nat.le_trans k.pw h.pw, Nat.le_trans k.sw h.sw, fun L h1 h2 => (k.old L h1 (Nat.le_trans h2 h.len)).trans (h.old L (Nat.le_trans h1 k.sw) h2)⟩

theorem wr_len {h h' : H} {q : Addr} {vs : List Value} (hw : wr h q vs = some h') : h'.length = h.length ∧ ∀ L, L ≤ q.block → h'.take L = h.take L := by
  unfold wr at hw
  split at hw
  · cases hb : h[q.block]? with
    | none => rw [hb] at hw; cases hw
    | some cs =>
      rw [hb] at hw
      simp only [Option.bind_some] at hw
      split at hw
      · cases hw
        refine ⟨by simp, fun L hL => ?_⟩
        rw [List.take_set]
        rw [List.set_eq_of_length_le (by simp; omega)]
      · cases hw
  · cases hw

theorem evOp_lvs {F : Ora} (hF : LvsF F) {R : H} {op : AOp} {s s' : St} {v : Value} (h : evOp F R op s = some (v, s')) : LvsS s s' ∧ s'.fr = s.fr := by
  have same : ∀ {α : Type} {o : Option α} {g : α → Value}, (o.map fun x => (g x, s)) = some (v, s') → LvsS s s' ∧ s'.fr = s.fr := by
    intro α o g ho
    obtain ⟨_, _, heq⟩ := Option.map_eq_some_iff.1 ho
    cases heq; exact ⟨LvsS.refl s, rfl⟩
  have mk : ∀ cs, LvsS s (new s cs) ∧ (new s cs).fr = s.fr := fun cs => ⟨⟨by simp [new], Nat.le_refl _, Nat.le_refl _, fun L h1 h2 => by simp [new, List.take_append_of_le_length h2]⟩, rfl⟩
  cases op <;> simp only [evOp] at h
  case mov => cases h; exact ⟨LvsS.refl s, rfl⟩
  case pick => split at h <;> cases h; exact ⟨LvsS.refl s, rfl⟩
  case alloc => cases h; exact mk _
  case box => split at h <;> cases h; exact mk _
  case build => exact same h
  case bslice => obtain ⟨_, _, heq⟩ := Option.map_eq_some_iff.1 h; cases heq; exact mk _
  case make =>
    split at h
    · split at h
      · cases h; exact mk _
      · cases h
    · cases h
  case load n x =>
    cases n <;> simp only [evOp] at h
    · split at h
      · obtain ⟨l, _, h⟩ := Option.bind_eq_some_iff.1 h
        exact same h
      · cases h
    · split at h
      · exact same h
      · cases h
  case store =>
    split at h
    · split at h
      · obtain ⟨h', hw, heq⟩ := Option.map_eq_some_iff.1 h
        cases heq
        obtain ⟨h1, h2⟩ := wr_len hw
        refine ⟨⟨by simp [h1], ?_, by simp; omega, fun L hL1 hL2 => h2 L ?_⟩, rfl⟩
        · simp only; split <;> omega
        · simp only at hL1; omega
      · cases h
    · cases h
  case nilck => split at h <;> cases h; exact ⟨LvsS.refl s, rfl⟩
  case bin => exact same h
  case eqb => split at h <;> cases h; exact ⟨LvsS.refl s, rfl⟩
  case un => exact same h
  case conv => exact same h
  case fieldA => split at h <;> cases h; exact ⟨LvsS.refl s, rfl⟩
  case idxA =>
    split at h
    · split at h <;> cases h; exact ⟨LvsS.refl s, rfl⟩
    · cases h
  case idxS =>
    split at h
    · split at h <;> cases h; exact ⟨LvsS.refl s, rfl⟩
    · cases h
  case idxV =>
    split at h
    · split at h
      · split at h
        · cases h; exact ⟨LvsS.refl s, rfl⟩
        · exact same h
      · cases h
    · cases h
  case fieldV =>
    split at h
    · split at h
      · split at h
        · cases h; exact ⟨LvsS.refl s, rfl⟩
        · exact same h
      · cases h
    · cases h
  case extract =>
    split at h
    · exact same h
    · cases h
  case len st x =>
    cases st <;> simp only [evOp] at h <;> split at h <;> cases h <;> exact ⟨LvsS.refl s, rfl⟩
  case cplx =>
    split at h
    · split at h <;> cases h; exact ⟨LvsS.refl s, rfl⟩
    · cases h
  case re => split at h <;> cases h; exact ⟨LvsS.refl s, rfl⟩
  case im => split at h <;> cases h; exact ⟨LvsS.refl s, rfl⟩
  case mm => split at h <;> first | (cases h; done) | exact same h
  case append => cases h
  case copy => cases h
  case slice =>
    split at h
    · obtain ⟨_, _, h⟩ := Option.bind_eq_some_iff.1 h
      exact same h
    · cases h
  case sliceA =>
    split at h
    · obtain ⟨_, _, h⟩ := Option.bind_eq_some_iff.1 h
      exact same h
    · cases h
  case call =>
    split at h
    · obtain ⟨⟨v0, h', pw, sw⟩, hf, heq⟩ := Option.map_eq_some_iff.1 h
      cases heq
      have := hF _ _ _ _ _ _ _ hf
      exact ⟨⟨this.len, by simp only; omega, by simp only; omega, fun L h1 h2 => this.old L (by simp only at h1; omega) h2⟩, rfl⟩
    · cases h

theorem put_lvs (s : St) (d : Option Nat) (v : Value) : LvsS s (put s d v) := by
  unfold put; split <;> exact ⟨Nat.le_refl _, Nat.le_refl _, Nat.le_refl _, fun _ _ _ => rfl⟩

theorem evO_lvs {F : Ora} (hF : LvsF F) {R : H} : ∀ (l : List AOper) {s s' : St}, evO F R l s = some s' → LvsS s s'
  | [], s, s', h => by simp only [evO] at h; cases h; exact LvsS.refl s
  | o :: l, s, s', h => by
    simp only [evO] at h
    split at h
    · obtain ⟨⟨v, s1⟩, h1, h⟩ := Option.bind_eq_some_iff.1 h
      exact (evOp_lvs hF h1).1.trans ((put_lvs _ _ _).trans (evO_lvs hF l h))
    · exact (put_lvs _ _ _).trans (evO_lvs hF l h)

theorem quietF_lvs {F : Ora} (hF : LvsF F) : LvsF (quietF F) := by
  intro f as h v h' pw sw hq
  unfold quietF at hq
  obtain ⟨⟨v0, h0, pw0, sw0⟩, hf, hq⟩ := Option.bind_eq_some_iff.1 hq
  simp only at hq
  split at hq
  · cases hq; exact ⟨Nat.le_refl _, fun _ _ _ => rfl⟩
  · cases hq

/-- A quiet call leaves the blocks just as they were. -/
theorem quiet_same {F : Ora} (hF : LvsF F) {f : Nat} {as : List Value} {h h' : H} {v : Value} {pw sw : Nat} (hf : F f as h = some (v, h', pw, sw)) (hs : h.length ≤ sw) : h'.take h.length = h := by
  have := (hF _ _ _ _ _ _ _ hf).old h.length hs (Nat.le_refl _)
  simpa using this

theorem stC_lvs {C : ACode → St → Option (X × St)} {F : Ora} {R : H} (hC : ∀ c s x s', C c s = some (x, s') → LvsS s s') (hF : LvsF F) (c : ACode) (s : St) (x : X) (s' : St) (h : stC C F R c s = some (x, s')) : LvsS s s' := by
  cases c <;> simp only [stC] at h
  case skip => cases h; exact LvsS.refl s
  case ops l => obtain ⟨s1, h1, heq⟩ := Option.map_eq_some_iff.1 h; cases heq; exact evO_lvs hF l h1
  case draw a q e =>
    obtain ⟨s0, h0, h⟩ := Option.bind_eq_some_iff.1 h
    obtain ⟨s1, h1, h⟩ := Option.bind_eq_some_iff.1 h
    obtain ⟨s2, h2, heq⟩ := Option.map_eq_some_iff.1 h
    cases heq
    exact (evO_lvs hF a h0).trans ((evO_lvs (quietF_lvs hF) q h1).trans (evO_lvs (quietF_lvs hF) e h2))
  case seq a b =>
    obtain ⟨⟨x1, s1⟩, h1, h⟩ := Option.bind_eq_some_iff.1 h
    cases x1 <;> simp only at h
    · exact (hC _ _ _ _ h1).trans (hC _ _ _ _ h)
    · cases h; exact hC _ _ _ _ h1
    · cases h; exact hC _ _ _ _ h1
  case cond c a b =>
    split at h
    · exact hC _ _ _ _ h
    · cases h
  case block id c =>
    obtain ⟨⟨x1, s1⟩, h1, heq⟩ := Option.map_eq_some_iff.1 h
    have := hC _ _ _ _ h1
    cases x1 <;> simp only at heq
    · cases heq; exact this
    · split at heq <;> cases heq <;> exact this
    · cases heq; exact this
  case loop c =>
    obtain ⟨⟨x1, s1⟩, h1, h⟩ := Option.bind_eq_some_iff.1 h
    cases x1 <;> simp only at h
    · exact (hC _ _ _ _ h1).trans (hC _ _ _ _ h)
    · cases h; exact hC _ _ _ _ h1
    · cases h; exact hC _ _ _ _ h1
  case exit => cases h; exact LvsS.refl s
  case ret => cases h; exact LvsS.refl s

theorem finish_lvs {h : H} {s' : St} (hS : LvsS ⟨s'.fr, h, h.length, h.length⟩ s') {v v' : Value} {h' : H} {pw sw : Nat} (hf : finish h.length v s' = (v', h', pw, sw)) : Lvs h h' pw sw := by
  unfold finish at hf
  split at hf
  · cases hf
    refine ⟨by have := hS.len; simp only [List.length_take] at this ⊢; omega, fun L h1 h2 => ?_⟩
    rw [List.take_take, Nat.min_eq_left h2]
    exact hS.old L h1 h2
  · cases hf
    exact ⟨hS.len, hS.old⟩

theorem stF_lvs {tab : Nat → Option AFn} {C : ACode → St → Option (X × St)} {R : H} (hC : ∀ c s x s', C c s = some (x, s') → LvsS s s') : LvsF (stF tab C R) := by
  intro f as h v h' pw sw hf
  unfold stF at hf
  split at hf
  · obtain ⟨_, _, heq⟩ := Option.map_eq_some_iff.1 hf
    cases heq
    exact ⟨Nat.le_refl _, fun _ _ _ => rfl⟩
  · split at hf
    · obtain ⟨⟨x, s⟩, h1, hf⟩ := Option.bind_eq_some_iff.1 hf
      have hl := hC _ _ _ _ h1
      have hl' : LvsS ⟨s.fr, h, h.length, h.length⟩ s := ⟨hl.len, hl.pw, hl.sw, hl.old⟩
      cases x <;> simp only at hf
      · obtain ⟨vs, _, hf⟩ := Option.bind_eq_some_iff.1 hf
        obtain ⟨_, _, heq⟩ := Option.map_eq_some_iff.1 hf
        exact finish_lvs hl' heq
      · cases hf
      · obtain ⟨vs, _, hf⟩ := Option.bind_eq_some_iff.1 hf
        obtain ⟨_, _, heq⟩ := Option.map_eq_some_iff.1 hf
        exact finish_lvs hl' heq
    · cases hf
  · cases hf

theorem ev_lvs (tab : Nat → Option AFn) (R : H) : ∀ n, (∀ c s x s', (ev tab R n).1 c s = some (x, s') → LvsS s s') ∧ LvsF (ev tab R n).2
  | 0 => by
    refine ⟨fun _ _ _ _ h => ?_, fun _ _ _ _ _ _ _ h => ?_⟩ <;> cases h
  | n + 1 => by
    obtain ⟨h1, h2⟩ := ev_lvs tab R n
    exact ⟨fun c s x s' h => stC_lvs h1 h2 c s x s' h, stF_lvs h1⟩

/-! ### Calls -/
/-- What a call comes to: a value at once (a function without a body), or a run of the function's body. -/
def CallOK (P : Program) (f : FuncId) (vs : Array Value) (w : World) (K : Value → World → Prop) : Prop :=
  (∃ cv w', (callFunc f vs).run P w = .ok (.value cv) w' ∧ K cv w') ∨
  ((callFunc f vs).run P w = .ok (.enter f vs) w ∧ Calls P f vs w fun x w' => ∃ cv, x = .returned cv ∧ K cv w')

/-- What is owed of a step's two worlds. -/
structure Out (B : Nat) (R : H) (e : Emb) (h : H) (w : World) (pw : Nat) (e' : Emb) (h' : H) (w' : World) : Prop where
  le : e.Le e'
  hr : HR B R e' h' w'
  blw : Blw B w w'
  cut : ∀ L, L ≤ pw → L ≤ h.length → HR B R (e.cut L) h w → HR B R (e'.cut L) h' w'
  same : ∀ i, i < h.length → e'.φ i = e.φ i

def SoundF (P : Program) (B : Nat) (R : H) (F : Ora) : Prop := ∀ f as h v h' pw sw, F f as h = some (v, h', pw, sw) →
  ∀ e w vs, HR B R e h w → F2 (VR e) vs as → CallOK P f vs.toArray w fun cv w' => ∃ e', Out B R e h w pw e' h' w' ∧ VR e' cv v

/-! ### A statement's operations, in their order -/
structure SR (N B : Nat) (R : H) (e : Emb) (s : St) (a : Act) (w : World) : Prop where
  size : a.tmps.size = N
  def0 : a.defers = []
  fr : ∀ t, VR e (a.tmps.getD t undef) (s.fr t)
  hr : HR B R e s.h w

theorem SR.put {N : Nat} {s : St} {a : Act} (H' : SR N B R e s a w) {d : Option Nat} (hd : ∀ t, d = some t → t < N) {cv v : Value} (hv : VR e cv v) : SR N B R e (put s d v) (a.put d cv) w := by
  cases d with
  | none => exact H'
  | some t =>
    refine ⟨by simp [Act.put, H'.size], H'.def0, fun x => ?_, H'.hr⟩
    simp only [Act.put, Go.AE.put, upd]
    by_cases hx : x = t
    · subst hx
      have := hd x rfl
      rw [if_pos rfl]
      simpa [Array.getElem?_setIfInBounds, H'.size, this] using hv
    · rw [if_neg hx]
      have : (a.tmps.setIfInBounds t cv).getD x undef = a.tmps.getD x undef := by
        simp [Array.getElem?_setIfInBounds, Ne.symm hx]
      rw [this]
      exact H'.fr x

theorem SR.mono {N : Nat} {s s' : St} {a : Act} (H' : SR N B R e s a w) (hle : e.Le e') (hh : HR B R e' s'.h w') (hf : s'.fr = s.fr) : SR N B R e' s' a w' :=
  ⟨H'.size, H'.def0, fun t => hf ▸ (H'.fr t).mono hle, hh⟩

theorem wanted_gok {N : Nat} {s : St} {a : Act} (H' : SR N B R e s a w) {ops : Array Oper} {o : Oper} {op : AOper} (ht : trOper P N ops o = some op) :
    Region.wanted o (yielded ops a.tmps) = gok s.fr op.guard := by
  unfold trOper at ht
  obtain ⟨x, hx, ht⟩ := Option.bind_eq_some_iff.1 ht
  split at ht
  · cases hg : o.guard with
    | none => rw [hg] at ht; simp only at ht; cases ht; simp [Region.wanted, hg, gok]
    | some jw =>
      obtain ⟨j, want⟩ := jw
      rw [hg] at ht
      simp only at ht
      obtain ⟨t, htt, ht⟩ := Option.bind_eq_some_iff.1 ht
      split at ht
      · rename_i hlt
        cases ht
        simp only [Region.wanted, hg, gok, yielded, htt]
        have hget : a.tmps[t]? = some (a.tmps.getD t undef) := by
          have : t < a.tmps.size := by rw [H'.size]; exact hlt
          simp [this]
        simp only [Option.bind_some, hget]
        have hv := H'.fr t
        generalize a.tmps.getD t undef = cv at hv
        generalize s.fr t = v at hv
        cases hv with
        | base hv => cases hv with
          | cell hv => cases hv <;> simp
          | agg => simp
        | tuple => simp
      · cases ht
  · cases ht

theorem trOper_parts {N : Nat} {ops : Array Oper} {o : Oper} {op : AOper} (ht : trOper P N ops o = some op) : trOp P o = some op.op ∧ op.dst = o.dst ∧ ∀ t, o.dst = some t → t < N := by
  unfold trOper at ht
  obtain ⟨x, hx, ht⟩ := Option.bind_eq_some_iff.1 ht
  split at ht
  · rename_i hd
    have hd' : ∀ t, o.dst = some t → t < N := fun t h => by rw [h] at hd; simpa [dstOK] using hd
    split at ht
    · cases ht; exact ⟨hx, rfl, hd'⟩
    · obtain ⟨t, htt, ht⟩ := Option.bind_eq_some_iff.1 ht
      split at ht
      · cases ht; exact ⟨hx, rfl, hd'⟩
      · cases ht
  · cases ht

theorem calleeOf_some {v : Value} {g : Nat} (h : calleeOf v = some g) : v = .func (.func g) #[] #[] := by
  unfold calleeOf at h
  split at h
  · split at h
    · rename_i hc
      cases h
      rw [Array.size_eq_zero_iff.1 hc.1, Array.size_eq_zero_iff.1 hc.2]
    · cases h
  · cases h

/-- One operation, a call too: what holds behind it. -/
theorem wp_oper {N : Nat} {s s1 : St} {a : Act} {F : Ora} (hF : SoundF P B R F) (H' : SR N B R e s a w) {ops : Array Oper} {o : Oper} {op : AOper} (ht : trOper P N ops o = some op)
    {v : Value} (hev : evOp F R op.op s = some (v, s1)) {K : Act → World → Prop} {Q : Exit → Act → World → Prop}
    (hK : ∀ a' w' e', SR N B R e' (put s1 op.dst v) a' w' → Out B R e s.h w s1.pw e' s1.h w' → K a' w') (hfr1 : s1.fr = s.fr) : o.wp P a w K Q := by
  obtain ⟨htr, hdst, hlt⟩ := trOper_parts ht
  have fin : ∀ cv w' e', Out B R e s.h w s1.pw e' s1.h w' → VR e' cv v → K (a.put o.dst cv) w' := by
    intro cv w' e' ho hv
    rw [← hdst]
    refine hK _ w' e' (SR.put (H'.mono ho.le ho.hr hfr1) (by rw [hdst]; exact hlt) hv) ho
  by_cases hc : ∃ c f, o.op = .call c ∧ c.callee = .value f
  · obtain ⟨c, ff, hoo, hff⟩ := hc
    simp only [trOp, hoo, hff] at htr
    obtain ⟨f', hf', htr⟩ := Option.bind_eq_some_iff.1 htr
    obtain ⟨xs', hxs, heq3⟩ := Option.map_eq_some_iff.1 htr
    rw [← heq3] at hev
    simp only [evOp] at hev
    split at hev
    · rename_i g heq
      obtain ⟨⟨v0, h', pw, sw⟩, hf, heq2⟩ := Option.map_eq_some_iff.1 hev
      cases heq2
      have kf := eval_rel H'.fr hf'
      rw [calleeOf_some heq] at kf
      have ef := kf.inv_func
      have hargs := eval_list H'.fr hxs
      have hca : c.args.map a.eval = (c.args.toList.map a.eval).toArray := by
        apply Array.ext'; simp
      have hexec : ∀ r, (callFunc g (c.args.toList.map a.eval).toArray).run P w = r → (execOp a.eval o).run P w = r := by
        intro r hr
        rw [← hr]
        simp only [execOp, hoo, resolve, hff, ef, Deferred.ofValue, Sem.run_bind, pure_eq, Sem.run, Result.andThen_ok, invoke, hca, Array.append_empty, Array.empty_append]
      unfold Oper.wp
      rcases hF _ _ _ _ _ _ _ hf e w _ H'.hr hargs with ⟨cv, w', hr, e', ho, hv⟩ | ⟨hr, hcalls⟩
      · rw [hexec _ hr]
        exact fin cv w' e' ⟨ho.le, ho.hr, ho.blw, fun L h1 h2 h3 => ho.cut L (by simp only at h1; omega) h2 h3, ho.same⟩ hv
      · rw [hexec _ hr]
        refine hcalls.mono ?_
        rintro x w' ⟨cv, rfl, e', ho, hv⟩
        exact fin cv w' e' ⟨ho.le, ho.hr, ho.blw, fun L h1 h2 h3 => ho.cut L (by simp only at h1; omega) h2 h3, ho.same⟩ hv
    · cases hev
  · obtain ⟨x, w', e', cv, hr, hx, hle, hh, hv, hb, hcut, hsame⟩ := sim_op (F := F) (pw := s.pw) (sw := s.sw) htr (fun c f h1 h2 => hc ⟨c, f, h1, h2⟩) H'.fr H'.hr hev
    unfold Oper.wp
    rw [hr]
    rcases hx with rfl | ⟨rfl, rfl⟩
    · exact fin cv w' e' ⟨hle, hh, hb, hcut, hsame⟩ hv
    · exact fin _ w' e' ⟨hle, hh, hb, hcut, hsame⟩ hv

end Go.AE
