/-
  Functions that touch no memory: what they give does not depend on the blocks there are.
-/
import Derived.Test.YtagjabnemfaknaaAeG
namespace Go.AE
set_option linter.unusedVariables false
set_option linter.unusedSimpArgs false

def pureOp (ok : Nat → Bool) : AOp → Bool
  | .mov _ | .pick .. | .bin .. | .eqb .. | .un .. | .conv .. | .extract .. | .re _ | .im _ | .mm .. => true
  | .call (.func g) _ => ok g
  | _ => false
def pureOps (ok : Nat → Bool) (l : List AOper) : Bool := l.all fun o => pureOp ok o.op
def pureC (ok : Nat → Bool) : ACode → Bool
  | .skip | .exit _ | .ret => true
  | .ops l => pureOps ok l
  | .draw a q e => pureOps ok a && (pureOps ok q && pureOps ok e)
  | .seq a b => pureC ok a && pureC ok b
  | .cond _ a b => pureC ok a && pureC ok b
  | .block _ c => pureC ok c
  | .loop c => pureC ok c
def pureR : ARes → Bool
  | .tmp _ => true
  | _ => false
def pureFn (ok : Nat → Bool) : Option AFn → Bool
  | some (.fn _ _ res body) => pureC ok body && res.all pureR
  | _ => true

def updO (fr : Fr) (d : Option Nat) (v : Value) : Fr := match d with | some t => upd fr t v | none => fr
def at0 (fr : Fr) (h : H) : St := ⟨fr, h, h.length, h.length⟩

section
variable {ok : Nat → Bool} {F : Ora} {R : H}
def PureF (ok : Nat → Bool) (F : Ora) : Prop := ∀ g, ok g = true → ∀ args, ∃ o : Option Value, ∀ h : H, F g args h = o.map fun v => (v, h, h.length, h.length)

theorem pure_op (hF : PureF ok F) (op : AOp) (hp : pureOp ok op = true) (fr : Fr) : ∃ o : Option Value, ∀ h : H, evOp F R op (at0 fr h) = o.map fun v => (v, at0 fr h) := by
  cases op with
  | mov x => exact ⟨some (av fr x), fun h => rfl⟩
  | pick c a b =>
    simp only [evOp, at0]
    cases av fr c <;> first | exact ⟨none, fun h => rfl⟩ | exact ⟨some _, fun h => rfl⟩
  | bin op x y => exact ⟨binV op (av fr x) (av fr y), fun h => rfl⟩
  | eqb ne x y =>
    simp only [evOp, at0]
    cases av fr x <;> first | exact ⟨none, fun h => rfl⟩ | (cases av fr y <;> first | exact ⟨none, fun h => rfl⟩ | exact ⟨some _, fun h => rfl⟩)
  | un op x => exact ⟨unV op (av fr x), fun h => rfl⟩
  | conv c x => exact ⟨cvV c (av fr x), fun h => rfl⟩
  | extract i x =>
    simp only [evOp, at0]
    cases av fr x <;> first | exact ⟨none, fun h => rfl⟩ | exact ⟨_, fun h => rfl⟩
  | re x =>
    simp only [evOp, at0]
    cases av fr x <;> first | exact ⟨none, fun h => rfl⟩ | exact ⟨some _, fun h => rfl⟩
  | im x =>
    simp only [evOp, at0]
    cases av fr x <;> first | exact ⟨none, fun h => rfl⟩ | exact ⟨some _, fun h => rfl⟩
  | mm b xs =>
    simp only [evOp, at0]
    cases xs <;> first | exact ⟨none, fun h => rfl⟩ | exact ⟨_, fun h => rfl⟩
  | call f args =>
    cases f with
    | func g =>
      obtain ⟨o, ho⟩ := hF g hp (args.map (av fr))
      refine ⟨o, fun h => ?_⟩
      rw [at0, op_call, ho]
      cases o with
      | none => rfl
      | some v => simp only [om_some, backF_mk, Nat.min_self]
    | _ => cases hp
  | _ => cases hp
theorem pure_ops (hF : PureF ok F) : ∀ (l : List AOper) (fr : Fr), pureOps ok l = true → ∃ o : Option Fr, ∀ h : H, evO F R l (at0 fr h) = o.map fun fr' => at0 fr' h
  | [], fr, _ => ⟨some fr, fun h => rfl⟩
  | ⟨d, g, op⟩ :: l, fr, hl => by
    unfold pureOps at hl
    rw [List.all_cons, Bool.and_eq_true] at hl
    have hput : ∀ (h : H) (v : Value), put (at0 fr h) d v = at0 (updO fr d v) h := by
      intro h v; cases d <;> rfl
    have hg : ∀ h : H, gok (at0 fr h).fr g = gok fr g := fun h => rfl
    cases hgk : gok fr g
    · obtain ⟨o, ho⟩ := pure_ops hF l (updO fr d undef) hl.2
      refine ⟨o, fun h => ?_⟩
      simp only [evO, hg, hgk, Bool.false_eq_true, if_false, hput]
      exact ho h
    · obtain ⟨o1, h1⟩ := pure_op (R := R) hF op hl.1 fr
      cases o1 with
      | none =>
        refine ⟨none, fun h => ?_⟩
        simp only [evO, hg, hgk, if_true, h1]
        rfl
      | some v =>
        obtain ⟨o, ho⟩ := pure_ops hF l (updO fr d v) hl.2
        refine ⟨o, fun h => ?_⟩
        simp only [evO, hg, hgk, if_true, h1, om_some, ob_some, hput]
        exact ho h
theorem pure_quiet (hF : PureF ok F) : PureF ok (quietF F) := by
  intro g hg args
  obtain ⟨o, ho⟩ := hF g hg args
  cases o with
  | none => exact ⟨none, fun h => by simp only [quietF, ho]; rfl⟩
  | some v =>
    refine ⟨if vfree v then some v else none, fun h => ?_⟩
    simp only [quietF, ho, om_some, ob_some, Nat.le_refl, true_and]
    cases vfree v <;> rfl
def PureC (ok : Nat → Bool) (C : ACode → St → Option (X × St)) : Prop := ∀ c, pureC ok c = true → ∀ fr, ∃ o : Option (X × Fr), ∀ h : H, C c (at0 fr h) = o.map fun p => (p.1, at0 p.2 h)
theorem pure_stC {C : ACode → St → Option (X × St)} (hF : PureF ok F) (hC : PureC ok C) : PureC ok (stC C F R) := by
  intro c hc fr
  cases c with
  | skip => exact ⟨some (.nrm, fr), fun h => rfl⟩
  | exit i => exact ⟨some (.brk i, fr), fun h => rfl⟩
  | ret => exact ⟨some (.ret, fr), fun h => rfl⟩
  | ops l =>
    obtain ⟨o, ho⟩ := pure_ops (R := R) hF l fr hc
    refine ⟨o.map fun fr' => (.nrm, fr'), fun h => ?_⟩
    simp only [stC, ho]
    cases o <;> rfl
  | draw a q e =>
    simp only [pureC, Bool.and_eq_true] at hc
    obtain ⟨o1, h1⟩ := pure_ops (R := R) hF a fr hc.1
    cases o1 with
    | none => exact ⟨none, fun h => by simp only [stC, h1]; rfl⟩
    | some fr1 =>
      obtain ⟨o2, h2⟩ := pure_ops (R := R) (pure_quiet hF) q fr1 hc.2.1
      cases o2 with
      | none => exact ⟨none, fun h => by simp only [stC, h1, om_some, ob_some, h2]; rfl⟩
      | some fr2 =>
        obtain ⟨o3, h3⟩ := pure_ops (R := R) (pure_quiet hF) e fr2 hc.2.2
        refine ⟨o3.map fun fr' => (.nrm, fr'), fun h => ?_⟩
        simp only [stC, h1, om_some, ob_some, h2, h3]
        cases o3 <;> rfl
  | seq a b =>
    simp only [pureC, Bool.and_eq_true] at hc
    obtain ⟨o1, h1⟩ := hC a hc.1 fr
    cases o1 with
    | none => exact ⟨none, fun h => by simp only [stC, h1]; rfl⟩
    | some p =>
      obtain ⟨x, fr1⟩ := p
      cases x with
      | nrm =>
        obtain ⟨o2, h2⟩ := hC b hc.2 fr1
        exact ⟨o2, fun h => by simp only [stC, h1, om_some, ob_some, h2]⟩
      | brk i => exact ⟨some (.brk i, fr1), fun h => by simp only [stC, h1, om_some, ob_some]⟩
      | ret => exact ⟨some (.ret, fr1), fun h => by simp only [stC, h1, om_some, ob_some]⟩
  | cond c a b =>
    simp only [pureC, Bool.and_eq_true] at hc
    simp only [stC, at0]
    cases hv : av fr c with
    | bool t =>
      cases t
      · exact hC b hc.2 fr
      · exact hC a hc.1 fr
    | _ => exact ⟨none, fun h => rfl⟩
  | block i c =>
    obtain ⟨o, ho⟩ := hC c hc fr
    cases o with
    | none => exact ⟨none, fun h => by simp only [stC, ho]; rfl⟩
    | some p =>
      obtain ⟨x, fr1⟩ := p
      cases x with
      | nrm => exact ⟨some (.nrm, fr1), fun h => by simp only [stC, ho, om_some]⟩
      | brk j => exact ⟨some (if j = i then .nrm else .brk j, fr1), fun h => by simp only [stC, ho, om_some]; split <;> rfl⟩
      | ret => exact ⟨some (.ret, fr1), fun h => by simp only [stC, ho, om_some]⟩
  | loop c =>
    obtain ⟨o, ho⟩ := hC c hc fr
    cases o with
    | none => exact ⟨none, fun h => by simp only [stC, ho]; rfl⟩
    | some p =>
      obtain ⟨x, fr1⟩ := p
      cases x with
      | nrm =>
        obtain ⟨o2, h2⟩ := hC (.loop c) hc fr1
        exact ⟨o2, fun h => by simp only [stC, ho, om_some, ob_some, h2]⟩
      | brk j => exact ⟨some (.brk j, fr1), fun h => by simp only [stC, ho, om_some, ob_some]⟩
      | ret => exact ⟨some (.ret, fr1), fun h => by simp only [stC, ho, om_some, ob_some]⟩
theorem pure_res (fr : Fr) : ∀ (res : List ARes), res.all pureR = true → ∃ o : Option (List Value), ∀ h : H, resL R fr h res = o
  | [], _ => ⟨some [], fun h => rfl⟩
  | .tmp t :: l, hl => by
    rw [List.all_cons, Bool.and_eq_true] at hl
    obtain ⟨o, ho⟩ := pure_res fr l hl.2
    exact ⟨o.map fun vs => fr t :: vs, fun h => by simp only [resL, resV, ob_some, ho]⟩
  | .cell t n :: l, hl => by simp [pureR] at hl
theorem finish_pure (v : Value) (fr : Fr) (h : H) : finish h.length v (at0 fr h) = (v, h, h.length, h.length) := by
  unfold finish at0
  split
  · simp only [List.take_length]
  · rfl
theorem pure_stF {tab : Nat → Option AFn} {C : ACode → St → Option (X × St)} (hok : ∀ g, ok g = true → pureFn ok (tab g) = true) (hC : PureC ok C) : PureF ok (stF tab C R) := by
  intro g hg args
  have hp := hok g hg
  simp only [stF]
  cases ht : tab g with
  | none => exact ⟨none, fun h => rfl⟩
  | some fn =>
    rw [ht] at hp
    cases fn with
    | ext e => exact ⟨extV e args, fun h => rfl⟩
    | fn np nt res body =>
      simp only [pureFn, Bool.and_eq_true] at hp
      by_cases hl : args.length = np
      · obtain ⟨o, ho⟩ := hC body hp.1 (fun t => args.getD t undef)
        simp only [hl, if_true]
        have ho' : ∀ h : H, C body ⟨fun t => args.getD t undef, h, h.length, h.length⟩ = o.map fun p => (p.1, at0 p.2 h) := ho
        cases o with
        | none => exact ⟨none, fun h => by simp only [ho']; rfl⟩
        | some p =>
          obtain ⟨x, fr1⟩ := p
          obtain ⟨o2, h2⟩ := pure_res (R := R) fr1 res hp.2
          have h2' : ∀ h : H, resL R (at0 fr1 h).fr (at0 fr1 h).h res = o2 := h2
          cases x with
          | brk i => exact ⟨none, fun h => by simp only [ho', om_some, ob_some]; rfl⟩
          | nrm =>
            refine ⟨o2.bind fun vs => oneOrTuple vs, fun h => ?_⟩
            simp only [ho', om_some, ob_some, h2', finish_pure]
            cases o2 with
            | none => rfl
            | some vs => simp only [ob_some]
          | ret =>
            refine ⟨o2.bind fun vs => oneOrTuple vs, fun h => ?_⟩
            simp only [ho', om_some, ob_some, h2', finish_pure]
            cases o2 with
            | none => rfl
            | some vs => simp only [ob_some]
      · simp only [hl, if_false]
        exact ⟨none, fun h => rfl⟩
end
theorem pure_ev {ok : Nat → Bool} {tab : Nat → Option AFn} {R : H} (hok : ∀ g, ok g = true → pureFn ok (tab g) = true) : ∀ n, PureC ok (ev tab R n).1 ∧ PureF ok (ev tab R n).2
  | 0 => ⟨fun c _ fr => ⟨none, fun h => rfl⟩, fun g _ args => ⟨none, fun h => rfl⟩⟩
  | n + 1 => by
    obtain ⟨hC, hF⟩ := pure_ev (R := R) hok n
    exact ⟨pure_stC hF hC, pure_stF hok hC⟩
/-- A run without any block serves for all. -/
theorem pure_any {ok : Nat → Bool} {tab : Nat → Option AFn} (R : H) (hok : ∀ g, ok g = true → pureFn ok (tab g) = true) {g : Nat} (hg : ok g = true) (n : Nat) {args : List Value} {v : Value} (h : H)
    (he : ((ev tab R n).2 g args []).map (fun p => p.1) = some v) : EF tab R g args h = some (v, h, h.length, h.length) := by
  obtain ⟨o, ho⟩ := (pure_ev (R := R) hok n).2 g hg args
  rw [ho] at he
  have : o = some v := by
    cases o with
    | none => cases he
    | some w => simpa using he
  subst this
  exact EF_of n _ _ _ _ (ho h)
end Go.AE
