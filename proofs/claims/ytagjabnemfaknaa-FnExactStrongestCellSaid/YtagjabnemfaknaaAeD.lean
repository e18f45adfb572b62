/-
  What the evaluator gives of a function is what the program's own run of it gives.
-/
import Derived.Test.YtagjabnemfaknaaAeC
namespace Go.AE
set_option linter.unusedVariables false
set_option linter.unusedSimpArgs false

variable {e e' : Emb} {B : Nat} {R h : H} {w w' : World} {P : Program}

theorem Out.refl (H' : HR B R e h w) (pw : Nat) : Out B R e h w pw e h w := ⟨Emb.Le.refl e, H', RowKit.Below.refl _ _, fun _ _ _ h => h, fun _ _ => rfl⟩
theorem Out.trans {e1 e2 : Emb} {h0 h1 h2 : H} {w0 w1 w2 : World} {p1 p2 : Nat} (a : Out B R e h0 w0 p1 e1 h1 w1) (b : Out B R e1 h1 w1 p2 e2 h2 w2) (hp : p2 ≤ p1) (hl : h0.length ≤ h1.length) : Out B R e h0 w0 p2 e2 h2 w2 :=
  ⟨a.le.trans b.le, b.hr, a.blw.trans b.blw, fun L h1 h2 h3 => b.cut L h1 (Nat.le_trans h2 hl) (a.cut L (Nat.le_trans h1 hp) h2 h3), fun i hi => (b.same i (Nat.lt_of_lt_of_le hi hl)).trans (a.same i hi)⟩

theorem wp_list {N : Nat} {ops : Array Oper} {F : Ora} (hF : SoundF P B R F) (hL : LvsF F) {Q : Exit → Act → World → Prop} : ∀ (l : List Oper) (al : List AOper) (s s' : St) (e : Emb) (a : Act) (w : World),
    trOpers P N ops l = some al → SR N B R e s a w → evO F R al s = some s' →
    (∀ a' w' e', SR N B R e' s' a' w' → Out B R e s.h w s'.pw e' s'.h w' → Q .normal a' w') → wpList P ops Q l a w
  | [], al, s, s', e, a, w, ht, H', hev, hQ => by
    simp only [trOpers] at ht; cases ht
    simp only [evO] at hev; cases hev
    exact hQ a w e H' (Out.refl H'.hr _)
  | o :: l, al, s, s', e, a, w, ht, H', hev, hQ => by
    simp only [trOpers] at ht
    obtain ⟨op, hop, ht⟩ := Option.bind_eq_some_iff.1 ht
    obtain ⟨al', hal, rfl⟩ := Option.map_eq_some_iff.1 ht
    simp only [evO] at hev
    refine wpList_step fun K hK => ?_
    rw [wanted_gok H' hop]
    split at hev
    · rename_i hg
      rw [if_pos hg]
      obtain ⟨⟨v, s1⟩, h1, h2⟩ := Option.bind_eq_some_iff.1 hev
      obtain ⟨hlv, hfr⟩ := evOp_lvs hL h1
      refine wp_oper hF H' hop h1 (fun a' w' e' hS hO => hK _ _ ?_) hfr
      refine wp_list hF hL l al' _ s' e' a' w' hal hS h2 fun a'' w'' e'' hS' hO' => ?_
      rw [put_h] at hO'
      have hlv' := evO_lvs hL _ h2
      exact hQ _ _ _ hS' (hO.trans hO' (by have := hlv'.pw; rw [put_pw] at this; exact this) hlv.len)
    · rename_i hg
      rw [if_neg hg]
      obtain ⟨_, hdst, hdlt⟩ := trOper_parts hop
      refine hK _ _ (wp_list hF hL l al' _ s' e _ w hal ?_ hev fun a'' w'' e'' hS' hO' => ?_)
      · rw [← hdst]
        exact SR.put H' (by rw [hdst]; exact hdlt) VR.undef
      · rw [put_h] at hO'
        exact hQ _ _ _ hS' hO'

def X.ex : X → Exit
  | .nrm => .normal
  | .brk id => .exit id
  | .ret => .ret

/-- A loop, from the start of a round. -/
def Round (P : Program) (c : Code) (Q : Exit → Act → World → Prop) (a : Act) (w : World) : Prop := ∀ (b : Frame) (k : List Item) (cs : List Frame),
  ∃ e a' w', Q e a' w' ∧ Arrives P (lone (b.at a (.code c :: .inLoop c :: k)) cs w) b k cs e a' w'

theorem Round.loop {c : Code} {Q : Exit → Act → World → Prop} {a : Act} (h : Round P c Q a w) : (Code.loop c).wp P Q a w := fun b k cs =>
  let ⟨e, a', w', q, r⟩ := h b k cs; ⟨e, a', w', q, .of_steps (.one step_loop) r⟩

theorem Round.of {c : Code} {Q : Exit → Act → World → Prop} {a : Act} (h : c.wp P (Exit.then (Round P c Q) Q) a w) : Round P c Q a w := by
  intro b k cs
  obtain ⟨e, a₁, w₁, hq, harr⟩ := h b (.inLoop c :: k) cs
  cases e with
  | normal =>
    obtain ⟨e₂, a₂, w₂, hq₂, harr₂⟩ := hq b k cs
    exact ⟨e₂, a₂, w₂, hq₂, .of_steps (Steps.trans harr (.one step_inLoop)) harr₂⟩
  | exit id => exact ⟨_, a₁, w₁, hq, .pass (x := .inLoop c) rfl (fun _ _ => .inl (by simp)) harr⟩
  | goto l => exact ⟨_, a₁, w₁, hq, .pass (x := .inLoop c) rfl (fun _ _ => .inl (by simp)) harr⟩
  | ret => exact ⟨_, a₁, w₁, hq, .pass (x := .inLoop c) rfl (fun _ _ => .inl (by simp)) harr⟩
  | panic ch => exact ⟨_, a₁, w₁, hq, .pass (x := .inLoop c) rfl (fun _ _ => .inl (by simp)) harr⟩
  | outgrown => exact ⟨_, a₁, w₁, hq, .pass (x := .inLoop c) rfl (fun _ _ => .inl (by simp)) harr⟩

def SoundC (P : Program) (B : Nat) (R : H) (C : ACode → St → Option (X × St)) : Prop := ∀ N c ac, trCode P N c = some ac → ∀ s x s', C ac s = some (x, s') →
  ∀ e a w, SR N B R e s a w → ∀ Q : Exit → Act → World → Prop, (∀ a' w' e', SR N B R e' s' a' w' → Out B R e s.h w s'.pw e' s'.h w' → Q x.ex a' w') → c.wp P Q a w
def SoundL (P : Program) (B : Nat) (R : H) (C : ACode → St → Option (X × St)) : Prop := ∀ N c ac, trCode P N c = some ac → ∀ s x s', C (.loop ac) s = some (x, s') →
  ∀ e a w, SR N B R e s a w → ∀ Q : Exit → Act → World → Prop, (∀ a' w' e', SR N B R e' s' a' w' → Out B R e s.h w s'.pw e' s'.h w' → Q x.ex a' w') → Round P c Q a w

theorem sound_loop {C : ACode → St → Option (X × St)} {F : Ora} (hC : SoundC P B R C) (hLp : SoundL P B R C) (hCl : ∀ c s x s', C c s = some (x, s') → LvsS s s') : SoundL P B R (stC C F R) := by
  intro N c ac ht s x s' hev e a w H' Q hQ
  simp only [stC] at hev
  obtain ⟨⟨x1, s1⟩, h1, hev⟩ := Option.bind_eq_some_iff.1 hev
  have hl1 := hCl _ _ _ _ h1
  refine Round.of (hC N c ac ht s x1 s1 h1 e a w H' _ fun a1 w1 e1 hS hO => ?_)
  cases x1 <;> simp only at hev
  · have hl2 := hCl _ _ _ _ hev
    exact hLp N c ac ht s1 x s' hev e1 a1 w1 hS Q fun a' w' e' hS' hO' => hQ a' w' e' hS' (hO.trans hO' hl2.pw hl1.len)
  · cases hev; exact hQ a1 w1 e1 hS hO
  · cases hev; exact hQ a1 w1 e1 hS hO

theorem sound_code (hm : P.follows .mixedOrders = true) {C : ACode → St → Option (X × St)} {F : Ora} (hC : SoundC P B R C) (hLp : SoundL P B R C) (hCl : ∀ c s x s', C c s = some (x, s') → LvsS s s')
    (hF : SoundF P B R F) (hL : LvsF F) (hT : TruncF F) : SoundC P B R (stC C F R) := by
  intro N c ac ht s x s' hev e a w H' Q hQ
  cases c <;> try simp only [trCode] at ht
  case skip =>
    cases ht
    simp only [stC] at hev; cases hev
    exact wp_skip (hQ a w e H' (Out.refl H'.hr _))
  case region id ops draw =>
    cases draw <;> simp only [trCode] at ht
    · obtain ⟨al, hal, rfl⟩ := Option.map_eq_some_iff.1 ht
      simp only [stC] at hev
      obtain ⟨s1, h1, heq⟩ := Option.map_eq_some_iff.1 hev
      cases heq
      exact wp_region_list (wp_list hF hL _ _ _ _ e a w hal H' h1 hQ)
    · obtain ⟨al, hal, ht⟩ := Option.bind_eq_some_iff.1 ht
      split at ht
      · rename_i hok
        cases ht
        simp only [stC] at hev
        obtain ⟨sa, h1, hev⟩ := Option.bind_eq_some_iff.1 hev
        obtain ⟨sq, h2, hev⟩ := Option.bind_eq_some_iff.1 hev
        obtain ⟨s1, h3, heq⟩ := Option.map_eq_some_iff.1 hev
        cases heq
        exact wp_draw hm hal hok hF hL hT H' h1 h2 h3 hQ
      · cases ht
  case seq c d =>
    obtain ⟨ac', hc, ht⟩ := Option.bind_eq_some_iff.1 ht
    obtain ⟨ad, hd, rfl⟩ := Option.map_eq_some_iff.1 ht
    simp only [stC] at hev
    obtain ⟨⟨x1, s1⟩, h1, hev⟩ := Option.bind_eq_some_iff.1 hev
    have hl1 := hCl _ _ _ _ h1
    refine wp_seq (hC N c _ hc s x1 s1 h1 e a w H' _ fun a1 w1 e1 hS hO => ?_)
    cases x1 <;> simp only at hev
    · have hl2 := hCl _ _ _ _ hev
      exact hC N d _ hd s1 x s' hev e1 a1 w1 hS Q fun a' w' e' hS' hO' => hQ a' w' e' hS' (hO.trans hO' hl2.pw hl1.len)
    · cases hev; exact hQ a1 w1 e1 hS hO
    · cases hev; exact hQ a1 w1 e1 hS hO
  case cond c t f =>
    obtain ⟨c', hc, ht⟩ := Option.bind_eq_some_iff.1 ht
    obtain ⟨at', hat, ht⟩ := Option.bind_eq_some_iff.1 ht
    obtain ⟨af, haf, rfl⟩ := Option.map_eq_some_iff.1 ht
    simp only [stC] at hev
    split at hev
    · rename_i b heq
      have k := eval_rel H'.fr hc
      rw [heq] at k
      refine wp_cond k.inv_bool ?_
      cases b
      · exact hC N f _ haf s x s' hev e a w H' Q hQ
      · exact hC N t _ hat s x s' hev e a w H' Q hQ
    · cases hev
  case block id c =>
    obtain ⟨ac', hc, rfl⟩ := Option.map_eq_some_iff.1 ht
    simp only [stC] at hev
    obtain ⟨⟨x1, s1⟩, h1, heq⟩ := Option.map_eq_some_iff.1 hev
    refine wp_block (hC N c _ hc s x1 s1 h1 e a w H' _ fun a1 w1 e1 hS hO => ?_)
    cases x1 <;> simp only at heq
    · cases heq; exact hQ a1 w1 e1 hS hO
    · simp only [X.ex, Exit.inBlock]
      split at heq
      · rename_i hid
        cases heq
        rw [if_pos hid]; exact hQ a1 w1 e1 hS hO
      · rename_i hid
        cases heq
        rw [if_neg hid]; exact hQ a1 w1 e1 hS hO
    · cases heq; exact hQ a1 w1 e1 hS hO
  case loop c =>
    obtain ⟨ac', hc, rfl⟩ := Option.map_eq_some_iff.1 ht
    exact (sound_loop (F := F) hC hLp hCl N c ac' hc s x s' hev e a w H' Q hQ).loop
  case exit id =>
    cases ht
    simp only [stC] at hev; cases hev
    exact wp_exit (hQ a w e H' (Out.refl H'.hr _))
  case ret =>
    cases ht
    simp only [stC] at hev; cases hev
    exact wp_ret (hQ a w e H' (Out.refl H'.hr _))
  all_goals cases ht

/-! ### Functions -/
theorem resV_rel {tmps : Array Value} {fr : Fr} (hfr : ∀ t, VR e (tmps.getD t undef) (fr t)) (H' : HR B R e h w) {t : Tmp} {ty : TypeId} {n : Option Nat} (hn : shapeL P ty = some n) {v : Value}
    (hv : resV R fr h (.cell t n) = some v) : ∃ cv, (do loadVar ty (← asAddr (tmps.getD t undef)) : Sem Value).run P w = .ok cv w ∧ VR e cv v := by
  have k := hfr t
  obtain ⟨hag, hsz⟩ := run_shape hn w
  simp only [resV] at hv
  split at hv
  · rename_i q heq
    rw [heq] at k
    obtain ⟨p, ep, hp⟩ := k.inv_ptr
    cases n with
    | none =>
      simp only at hv
      obtain ⟨l, hl, hv0⟩ := Option.bind_eq_some_iff.1 hv
      obtain ⟨vs, hr, hF, hlen⟩ := H'.loadCells (P := P) hp hl
      obtain ⟨cv, hcv, hcr⟩ := hF.get hv0
      refine ⟨cv, ?_, hcr.vr⟩
      have hl1 : vs.length = 1 := by rw [hF.length, hlen]
      have hvs : vs = [cv] := by
        match vs, hl1 with
        | [x], _ => simp at hcv; rw [hcv]
      subst hvs
      have hload : (Go.load p).run P w = .ok cv w := by
        have hadd : p.add 0 = p := by simp [Addr.add]
        cases hc : (Go.load p).run P w with
        | halt hh w2 => simp [Go.loadCells, loadCellsFrom, hadd, hc] at hr
        | ok x w2 =>
          simp [Go.loadCells, loadCellsFrom, hadd, hc] at hr
          rw [hr.1, hr.2]
      simp only [ep, asAddr, Sem.run_bind, pure_eq, Sem.run, Result.andThen_ok, loadVar, hag, Option.isSome_none, Bool.false_eq_true, if_false, hload]
    | some m =>
      simp only at hv
      obtain ⟨l, hl, heq2⟩ := Option.map_eq_some_iff.1 hv
      cases heq2
      obtain ⟨vs, hr, hF, hlen⟩ := H'.loadCells (P := P) hp hl
      refine ⟨.agg vs.toArray, ?_, .base (.agg hF)⟩
      simp only [ep, asAddr, Sem.run_bind, pure_eq, Sem.run, Result.andThen_ok, loadVar, hag, Option.isSome_some, if_true, hsz m rfl, hr]
  · cases hv

theorem resL_rel {tmps : Array Value} {fr : Fr} (hfr : ∀ t, VR e (tmps.getD t undef) (fr t)) (H' : HR B R e h w) : ∀ (l : List ResultVar) (al : List ARes) (vs : List Value), trRes P l = some al → resL R fr h al = some vs →
    ∃ cvs, (l.mapM (fun
      | .tmp t => pure (tmps.getD t undef)
      | .cell a t => do loadVar t (← asAddr (tmps.getD a undef)) : ResultVar → Sem Value)).run P w = .ok cvs w ∧ F2 (VR e) cvs vs
  | [], al, vs, ht, hv => by
    simp only [trRes] at ht; cases ht
    simp only [resL] at hv; cases hv
    exact ⟨[], by simp, .nil⟩
  | .tmp t :: l, al, vs, ht, hv => by
    simp only [trRes] at ht
    obtain ⟨al', ha, rfl⟩ := Option.map_eq_some_iff.1 ht
    simp only [resL, resV, Option.bind_some] at hv
    obtain ⟨vs', hvs, rfl⟩ := Option.map_eq_some_iff.1 hv
    obtain ⟨cvs, hr, hF⟩ := resL_rel hfr H' l al' vs' ha hvs
    refine ⟨tmps.getD t undef :: cvs, ?_, .cons (hfr t) hF⟩
    simp only [List.mapM_cons, Sem.run_bind, Sem.run_pure, Result.andThen_ok, hr]
  | .cell t ty :: l, al, vs, ht, hv => by
    simp only [trRes] at ht
    obtain ⟨n, hn, ht⟩ := Option.bind_eq_some_iff.1 ht
    obtain ⟨al', ha, rfl⟩ := Option.map_eq_some_iff.1 ht
    simp only [resL] at hv
    obtain ⟨v, hv0, hv⟩ := Option.bind_eq_some_iff.1 hv
    obtain ⟨vs', hvs, rfl⟩ := Option.map_eq_some_iff.1 hv
    obtain ⟨cvs, hr, hF⟩ := resL_rel hfr H' l al' vs' ha hvs
    obtain ⟨cv, hr0, hcv⟩ := resV_rel hfr H' hn hv0
    refine ⟨cv :: cvs, ?_, .cons hcv hF⟩
    simp only [List.mapM_cons]
    rw [Sem.run_bind, hr0]
    simp only [Result.andThen_ok, Sem.run_bind, hr, Sem.run_pure]

theorem VR.v0 {v a : Value} (k : VR e v a) (h : noTup a = true) : V0 e v a := by
  cases k with
  | base k => exact k
  | tuple => simp [noTup] at h

theorem results_rel {fn : Func} {tmps : Array Value} {fr : Fr} (hfr : ∀ t, VR e (tmps.getD t undef) (fr t)) (H' : HR B R e h w) {al : List ARes} {vs : List Value} (ht : trRes P fn.results.toList = some al) (hv : resL R fr h al = some vs) {v : Value} (ho : oneOrTuple vs = some v) :
    ∃ cv, (results fn tmps).run P w = .ok cv w ∧ VR e cv v := by
  obtain ⟨cvs, hr, hF⟩ := resL_rel hfr H' _ _ _ ht hv
  have hrun : (results fn tmps).run P w = .ok (if h : cvs.toArray.size = 1 then cvs.toArray[0] else .tuple cvs.toArray) w := by
    unfold results
    obtain ⟨l, hl⟩ : ∃ l, fn.results = List.toArray l := ⟨fn.results.toList, by simp⟩
    rw [hl] at hr ⊢
    simp only at hr
    rw [List.mapM_toArray]
    simp only [map_eq_pure_bind, Sem.run_bind]
    erw [hr]
    simp only [Result.andThen_ok, Sem.run_pure]
  refine ⟨_, hrun, ?_⟩
  unfold oneOrTuple at ho
  split at ho
  · cases ho
    cases hF with
    | cons h1 h2 => cases h2; simpa using h1
  · rename_i hne
    split at ho
    · rename_i hall
      cases ho
      have hl : cvs.length ≠ 1 := by
        intro h1
        rw [hF.length] at h1
        match vs, h1 with
        | [x], _ => exact hne x rfl
      rw [dif_neg (by simpa using hl)]
      refine .tuple ?_
      have key : ∀ (cvs vs : List Value), F2 (VR e) cvs vs → vs.all noTup = true → F2 (V0 e) cvs vs := by
        intro cvs vs hF
        induction hF with
        | nil => intro _; exact .nil
        | cons h1 _ ih =>
          intro hh
          simp only [List.all_cons, Bool.and_eq_true] at hh
          exact .cons (h1.v0 hh.1) (ih hh.2)
      exact key _ _ hF hall
    · cases ho

theorem Emb.cut_self (H' : HR B R e h w) : e.cut h.length = e := by
  obtain ⟨φ, ψ⟩ := e
  unfold Emb.cut
  simp only [Emb.mk.injEq, and_true]
  funext i
  split
  · rfl
  · cases hc : φ i with
    | none => rfl
    | some b => have := H'.fresh _ _ hc; omega
theorem Emb.cut_cut {L L' : Nat} (h : L' ≤ L) : (e.cut L).cut L' = e.cut L' := by
  unfold Emb.cut
  simp only [Emb.mk.injEq, and_true]
  funext i
  split
  · rw [if_pos (by omega)]
  · rfl
theorem HR.takeL {L : Nat} (H' : HR B R (e.cut L) h w) {L' : Nat} (hl : L ≤ L') : HR B R (e.cut L) (h.take L') w := by
  refine ⟨fun i b hi => ?_, H'.inj, H'.ro, H'.size⟩
  have hi' := hi
  unfold Emb.cut at hi'
  simp only at hi'
  split at hi'
  · obtain ⟨cs, hc, r⟩ := H'.dom _ _ hi
    exact ⟨cs, by rw [List.getElem?_take, if_pos (by omega)]; exact hc, r⟩
  · cases hi'

theorem trunc_fn {tab : Nat → Option AFn} {C : ACode → St → Option (X × St)} (hC : ∀ c s x s', C c s = some (x, s') → LvsS s s') : TruncF (stF tab C R) := by
  intro f as h v h' pw sw hf hv hp
  have fin : ∀ (s' : St), LvsS ⟨s'.fr, h, h.length, h.length⟩ s' → ∀ v0, finish h.length v0 s' = (v, h', pw, sw) → h'.length = h.length := by
    intro s' hl v0 he
    unfold finish at he
    split at he
    · cases he
      have := hl.len
      simp only at this
      simp [List.length_take]; omega
    · rename_i hn
      cases he
      exact absurd ⟨hv, hp⟩ hn
  unfold stF at hf
  split at hf
  · obtain ⟨_, _, heq⟩ := Option.map_eq_some_iff.1 hf
    cases heq; rfl
  · split at hf
    · obtain ⟨⟨x, s⟩, h1, hf⟩ := Option.bind_eq_some_iff.1 hf
      have hl := hC _ _ _ _ h1
      have hl' : LvsS ⟨s.fr, h, h.length, h.length⟩ s := ⟨hl.len, hl.pw, hl.sw, hl.old⟩
      cases x <;> simp only at hf
      · obtain ⟨vs, _, hf⟩ := Option.bind_eq_some_iff.1 hf
        obtain ⟨_, _, heq⟩ := Option.map_eq_some_iff.1 hf
        exact fin _ hl' _ heq
      · cases hf
      · obtain ⟨vs, _, hf⟩ := Option.bind_eq_some_iff.1 hf
        obtain ⟨_, _, heq⟩ := Option.map_eq_some_iff.1 hf
        exact fin _ hl' _ heq
    · cases hf
  · cases hf

theorem sound_fn {C : ACode → St → Option (X × St)} (hC : SoundC P B R C) (hCl : ∀ c s x s', C c s = some (x, s') → LvsS s s') : SoundF P B R (stF (trFn P) C R) := by
  intro f as h v h' pw sw hf e w vs H' hF
  unfold stF at hf
  split at hf
  · rename_i x htr
    obtain ⟨v0, hv, heq⟩ := Option.map_eq_some_iff.1 hf
    cases heq
    unfold trFn at htr
    obtain ⟨fn, hfn, htr⟩ := Option.bind_eq_some_iff.1 htr
    split at htr
    · cases htr
    rename_i hng
    split at htr
    · rename_i hb
      split at htr
      · rename_i hnx
        obtain ⟨x', hx, heq⟩ := Option.map_eq_some_iff.1 htr
        cases heq
        obtain ⟨cv, w', hr, hv', hd⟩ := ext_rel (P := P) hF hv w
        left
        refine ⟨cv, w', ?_, e, ⟨Emb.Le.refl e, H'.drw hd, hd.blw B, fun L _ _ h3 => h3.drw hd, fun _ _ => rfl⟩, hv'⟩
        rw [Option.isNone_iff_eq_none] at hnx
        simp only [callFunc, Sem.run_bind, run_program, Result.andThen_ok, hfn, hb, hnx, find_ext hx, hng, Option.isNone_none, if_true, if_false, run_mark, hr, Sem.run_pure]
        simp [hr]
      · cases htr
    · split at htr
      · obtain ⟨_, _, htr⟩ := Option.bind_eq_some_iff.1 htr
        obtain ⟨_, _, htr⟩ := Option.map_eq_some_iff.1 htr
        cases htr
      · cases htr
  · rename_i np nt res body htr
    split at hf
    · rename_i hargs
      obtain ⟨⟨x, s⟩, h1, hf⟩ := Option.bind_eq_some_iff.1 hf
      unfold trFn at htr
      obtain ⟨fn, hfn, htr⟩ := Option.bind_eq_some_iff.1 htr
      split at htr
      · cases htr
      rename_i hng
      split at htr
      · split at htr
        · obtain ⟨_, _, heq⟩ := Option.map_eq_some_iff.1 htr
          cases heq
        · cases htr
      · rename_i c hb
        split at htr
        · rename_i hle
          obtain ⟨ac, hac, htr⟩ := Option.bind_eq_some_iff.1 htr
          obtain ⟨ar, har, heq⟩ := Option.map_eq_some_iff.1 htr
          cases heq
          have hl := hCl _ _ _ _ h1
          right
          refine ⟨?_, ?_⟩
          · simp only [callFunc, Sem.run_bind, run_program, Result.andThen_ok, hfn, hb, hng, Option.isNone_some, if_false, Bool.false_eq_true, Sem.run_pure]
          · refine calls_of_wp hfn hb (hC _ _ _ hac _ x s h1 e _ w ?_ _ ?_)
            · refine ⟨?_, rfl, fun t => ?_, H'⟩
              · have := hF.length
                simp; omega
              · simp only
                rcases Nat.lt_or_ge t as.length with hlt | hge
                · obtain ⟨a, ha⟩ : ∃ a, as[t]? = some a := ⟨as[t], List.getElem?_eq_getElem hlt⟩
                  obtain ⟨cv, hcv, hr⟩ := hF.get ha
                  have e1 : (vs.toArray ++ Array.replicate (fn.ntmps - vs.toArray.size) undef).getD t undef = cv := by
                    have hlt' : t < vs.length := by rw [hF.length]; exact hlt
                    rw [Array.getD_eq_getD_getElem?, Array.getElem?_append_left (by simpa using hlt')]
                    simp [hcv]
                  rw [e1, List.getD_eq_getElem?_getD, ha]
                  exact hr
                · have e1 : (vs.toArray ++ Array.replicate (fn.ntmps - vs.toArray.size) undef).getD t undef = undef := by
                    rw [Array.getD_eq_getD_getElem?, Array.getElem?_append_right (by rw [← hF.length] at hge; simpa using hge), Array.getElem?_replicate]
                    split <;> rfl
                  rw [e1, List.getD_eq_getElem?_getD, List.getElem?_eq_none (by omega)]
                  exact VR.undef
            · intro a' w' e' hS hO
              have done : ∀ vs0 v0, resL R s.fr s.h res = some vs0 → oneOrTuple vs0 = some v0 → finish h.length v0 s = (v, h', pw, sw) →
                  a'.defers = [] ∧ ∃ cv, (results fn a'.tmps).run P w' = .ok cv w' ∧ ∃ cv', Ending.returned cv = .returned cv' ∧ ∃ e', Out B R e h w pw e' h' w' ∧ VR e' cv' v := by
                intro vs0 v0 hvs ho he
                obtain ⟨cv, hr, hcv⟩ := results_rel hS.fr hS.hr har hvs ho
                refine ⟨hS.def0, cv, hr, cv, rfl, ?_⟩
                unfold finish at he
                split at he
                · rename_i hcond
                  cases he
                  have hcut0 : HR B R (e.cut h.length) h w := by rw [Emb.cut_self H']; exact H'
                  have hc1 := hO.cut h.length hcond.2 (Nat.le_refl _) hcut0
                  refine ⟨e'.cut h.length, ⟨?_, hc1.takeL (Nat.le_refl _), hO.blw, fun L h1 h2 h3 => ?_, fun i hi => ?_⟩, hcv.free hcond.1 _⟩
                  · rw [← Emb.cut_self H']
                    exact Emb.cut_mono hO.le _
                  · rw [Emb.cut_cut h2]
                    exact (hO.cut L h1 h2 h3).takeL h2
                  · rw [← hO.same i hi]
                    unfold Emb.cut
                    simp only
                    rw [if_pos hi]
                · cases he
                  exact ⟨e', hO, hcv⟩
              cases x <;> simp only at hf
              · obtain ⟨vs0, hvs, hf⟩ := Option.bind_eq_some_iff.1 hf
                obtain ⟨v0, ho, he⟩ := Option.map_eq_some_iff.1 hf
                exact done vs0 v0 hvs ho he
              · cases hf
              · obtain ⟨vs0, hvs, hf⟩ := Option.bind_eq_some_iff.1 hf
                obtain ⟨v0, ho, he⟩ := Option.map_eq_some_iff.1 hf
                exact done vs0 v0 hvs ho he
        · cases htr
    · cases hf
  · cases hf

theorem sound (hm : P.follows .mixedOrders = true) (B : Nat) (R : H) : ∀ n, SoundC P B R (ev (trFn P) R n).1 ∧ SoundL P B R (ev (trFn P) R n).1 ∧ SoundF P B R (ev (trFn P) R n).2 ∧ TruncF (ev (trFn P) R n).2
  | 0 => by
    refine ⟨fun _ _ _ _ _ _ _ h => ?_, fun _ _ _ _ _ _ _ h => ?_, fun _ _ _ _ _ _ _ h => ?_, fun _ _ _ _ _ _ _ h => ?_⟩ <;> cases h
  | n + 1 => by
    obtain ⟨h1, h2, h3, h4⟩ := sound hm B R n
    obtain ⟨l1, l2⟩ := ev_lvs (trFn P) R n
    exact ⟨sound_code hm h1 h2 l1 h3 l2 h4, sound_loop h1 h2 l1, sound_fn h1 l1, trunc_fn l1⟩

end Go.AE
