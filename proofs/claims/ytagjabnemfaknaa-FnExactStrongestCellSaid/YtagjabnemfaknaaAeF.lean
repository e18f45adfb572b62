/-
  From the evaluator to a row 'for every input the law returns true, and the input reads as it did': arguments without addresses.
-/
import Derived.Test.YtagjabnemfaknaaAeE
import Derived.ProofKit
import Derived.Carry
namespace Go.AE
set_option linter.unusedVariables false
set_option linter.unusedSimpArgs false

inductive Sc where
  | i (k : IntKind)
  | f (k : FloatKind)
  | b

/-- A cell of a kind, its NaN the one that stands for all. -/
def OkSc (v : Value) : Sc → Prop
  | .i k => ∃ n, v = .int k n ∧ k.has n
  | .f k => ∃ b, v = .float k b ∧ cn k b = b ∧ k.has b
  | .b => ∃ t, v = .bool t

def scOf (P : Program) (t : TypeId) : Option Sc := match P.underlying t with
  | some (.int k) => some (.i k)
  | some (.float k) => some (.f k)
  | some .bool => some .b
  | _ => none
def scsOf (P : Program) : List TypeId → Option (List Sc)
  | [] => some []
  | t :: ts => (scOf P t).bind fun s => (scsOf P ts).map (s :: ·)

/-- The cells of a type without addresses; whether it is an aggregate. -/
def flatT (P : Program) (t : TypeId) : Option (Bool × List Sc) := match P.underlying t with
  | some (.struct _) | some (.array _ _) => (P.cellTypes P.depth t).bind fun ts => if P.cellsOf t = ts.length then (scsOf P ts).map (true, ·) else none
  | _ => (scOf P t).map fun s => (false, [s])

def Typed (P : Program) (t : TypeId) (a : Value) : Prop := match flatT P t with
  | some (true, scs) => ∃ l : List Value, a = .agg l.toArray ∧ F2 OkSc l scs
  | some (false, scs) => ∃ s, scs = [s] ∧ OkSc a s
  | none => False
def TypedAll (P : Program) : List TypeId → List Value → Prop
  | [], [] => True
  | t :: ts, a :: as => Typed P t a ∧ TypedAll P ts as
  | _, _ => False

theorem has_cn (k : FloatKind) {b : Nat} (h : k.has b) : k.has (cn k b) := by
  unfold cn
  split
  · cases k <;> show (_ : Nat) < _ <;> decide
  · exact h

variable {P : Program} {e : Emb}

theorem cell_canon {w : World} {r : Reach} {base : Nat} {t : TypeId} {v : Value} {s : Sc} (hs : scOf P t = some s) (h : Cell.okWide P w r base t v) : ∃ a, CR e v a ∧ OkSc a s := by
  unfold scOf at hs
  unfold Cell.okWide Cell.ok at h
  split at hs
  · rename_i k hk
    cases hs
    rw [hk] at h
    cases v <;> simp at h
    obtain ⟨rfl, hh⟩ := h
    exact ⟨_, .int _ _, _, rfl, hh⟩
  · rename_i k hk
    cases hs
    rw [hk] at h
    cases v <;> simp at h
    obtain ⟨rfl, hh⟩ := h
    exact ⟨_, .float _ _, _, rfl, cn_cn _ _, has_cn _ hh⟩
  · rename_i hk
    cases hs
    rw [hk] at h
    cases v <;> simp at h
    exact ⟨_, .bool _, _, rfl⟩
  · cases hs

theorem cells_canon {w : World} {r : Reach} {base : Nat} : ∀ (ts : List TypeId) (scs : List Sc) (cs : List Value), scsOf P ts = some scs → cs.length = ts.length →
    (∀ (i : Nat) (v : Value), cs[i]? = some v → ∃ u, ts[i]? = some u ∧ Cell.okWide P w r base u v) → ∃ l, F2 (CR e) cs l ∧ F2 OkSc l scs
  | [], scs, cs, hs, hl, h => by
    simp only [scsOf] at hs; cases hs
    have : cs = [] := by simpa using hl
    subst this
    exact ⟨[], .nil, .nil⟩
  | t :: ts, scs, cs, hs, hl, h => by
    simp only [scsOf] at hs
    obtain ⟨s, hs1, hs⟩ := Option.bind_eq_some_iff.1 hs
    obtain ⟨scs', hs2, rfl⟩ := Option.map_eq_some_iff.1 hs
    cases cs with
    | nil => simp at hl
    | cons c cs =>
      obtain ⟨u, hu, hc⟩ := h 0 c rfl
      simp at hu; subst hu
      obtain ⟨a, ha1, ha2⟩ := cell_canon (e := e) hs1 hc
      obtain ⟨l, hl1, hl2⟩ := cells_canon (w := w) (r := r) (base := base) ts scs' cs hs2 (by simpa using hl) fun i v hv => by
        have := h (i + 1) v (by simpa using hv)
        simpa using this
      exact ⟨a :: l, .cons ha1 hl1, .cons ha2 hl2⟩

theorem value_canon {w : World} {r : Reach} {base : Nat} {t : TypeId} {v : Value} (ht : (flatT P t).isSome = true) (h : Value.okWide P w r base t v) : ∃ a, VR e v a ∧ Typed P t a := by
  unfold Value.okWide at h
  have agg : (∃ cs, v = .agg cs ∧ cs.size = P.cellsOf t ∧ Row.okWide P w r base t cs) → (((P.cellTypes P.depth t).bind fun ts => if P.cellsOf t = ts.length then (scsOf P ts).map (true, ·) else none) = flatT P t) → ∃ a, VR e v a ∧ Typed P t a := by
    rintro ⟨cs, rfl, hsz, ts, hts, ⟨n, hn⟩, hall⟩ he
    rw [hts, Option.bind_some] at he
    split at he
    · rename_i hlen
      rw [← he] at ht
      obtain ⟨scs, hscs⟩ : ∃ scs, scsOf P ts = some scs := by
        cases hh : scsOf P ts with
        | none => rw [hh] at ht; cases ht
        | some scs => exact ⟨scs, rfl⟩
      rw [hscs] at he
      obtain ⟨l, hl1, hl2⟩ := cells_canon (e := e) (w := w) (r := r) (base := base) ts scs cs.toList hscs (by simp; omega) fun i v hv => by
        obtain ⟨u, hu, hc⟩ := hall i v (by simpa using hv)
        have hi : i < ts.length := by
          have : i < cs.size := by
            have := (List.getElem?_eq_some_iff.1 hv).1
            simpa using this
          omega
        rw [Nat.mod_eq_of_lt hi] at hu
        exact ⟨u, hu, hc⟩
      refine ⟨.agg l.toArray, ?_, ?_⟩
      · have := VR.base (V0.agg hl1)
        simpa using this
      · unfold Typed
        rw [← he]
        exact ⟨l, rfl, hl2⟩
    · rw [← he] at ht; cases ht
  have one : Cell.okWide P w r base t v → ((scOf P t).map fun s => (false, [s])) = flatT P t → ∃ a, VR e v a ∧ Typed P t a := by
    intro hc he
    cases hs : scOf P t with
    | none => rw [hs] at he; rw [← he] at ht; cases ht
    | some s =>
      rw [hs] at he
      obtain ⟨a, ha, hb⟩ := cell_canon (e := e) hs hc
      refine ⟨a, ha.vr, ?_⟩
      unfold Typed
      rw [← he]
      exact ⟨s, rfl, hb⟩
  split at h
  · rename_i hu; exact agg h (by unfold flatT; rw [hu])
  · rename_i hu; exact agg h (by unfold flatT; rw [hu])
  · rename_i h1 h2
    refine one h ?_
    unfold flatT
    split
    · rename_i hu; exact absurd hu (h1 _)
    · rename_i hu; exact absurd hu (h2 _ _)
    · rfl

theorem values_canon {w : World} {r : Reach} {base : Nat} : ∀ (ts : List TypeId) (vs : List Value), ts.all (fun t => (flatT P t).isSome) = true → vs.length = ts.length →
    (∀ (j : Nat) t v, ts[j]? = some t → vs[j]? = some v → Value.okWide P w r base t v) → ∃ as, F2 (VR e) vs as ∧ TypedAll P ts as
  | [], vs, _, hl, _ => by
    have : vs = [] := by simpa using hl
    subst this
    exact ⟨[], .nil, trivial⟩
  | t :: ts, vs, ht, hl, h => by
    simp only [List.all_cons, Bool.and_eq_true] at ht
    cases vs with
    | nil => simp at hl
    | cons v vs =>
      obtain ⟨a, ha, hb⟩ := value_canon (e := e) ht.1 (h 0 t v rfl rfl)
      obtain ⟨as, h1, h2⟩ := values_canon (w := w) (r := r) (base := base) ts vs ht.2 (by simpa using hl) fun j t' v' h1 h2 => h (j + 1) t' v' (by simpa using h1) (by simpa using h2)
      exact ⟨a :: as, .cons ha h1, hb, h2⟩

theorem trodAll_length {H : Type} {enc : TypeId × Value → H} {w : World} {base : Nat} {sp : Nat → Bool} {held : Bool} : ∀ {ts : List TypeId} {vs : List Value} {ds : List (DataW H)} {ps : List MemPlace}, DataW.TrodAll enc P w base sp held ts vs ds ps → vs.length = ts.length ∧ ds.length = ts.length
  | [], [], [], _, _ => ⟨rfl, rfl⟩
  | t :: ts, v :: vs, d :: ds, ps, h => by
    obtain ⟨p, q, _, h2, _⟩ := h
    obtain ⟨a, b⟩ := trodAll_length h2
    exact ⟨by simp [a], by simp [b]⟩
  | [], [], _ :: _, _, h => h.elim
  | [], _ :: _, _, _, h => h.elim
  | _ :: _, [], _, _, h => h.elim
  | _ :: _, _ :: _, [], _, h => h.elim

theorem trodAll_stays {H : Type} {enc : TypeId × Value → H} (laid : laidOutB P = true) {W W' : World} (hb : RowKit.Below W.heap.size W W') : ∀ {ts : List TypeId} {vs : List Value} {ds : List (DataW H)} {ps : List MemPlace},
    ts.all (fun t => P.readableRec t && decide (t < P.types.size)) = true → DataW.TrodAll enc P W 0 (fun _ => true) true ts vs ds ps → (∀ x ∈ ps, x.block < W.heap.size) →
    DataW.TrodAll enc P W' 0 (fun b => decide (b < W.heap.size)) true ts vs ds ps
  | [], [], [], _, _, h, _ => h
  | t :: ts, v :: vs, d :: ds, ps, hr, h, hlt => by
    obtain ⟨p, q, h1, h2, rfl⟩ := h
    simp only [List.all_cons, Bool.and_eq_true, decide_eq_true_eq] at hr
    exact ⟨p, q, RowKit.Below.trod laid hr.1.1 hr.1.2 h1 hb (fun x hx => hlt x (by simp [hx])), trodAll_stays laid hb hr.2 h2 (fun x hx => hlt x (by simp [hx])), rfl⟩
  | [], [], _ :: _, _, _, h, _ => h.elim
  | [], _ :: _, _, _, _, h, _ => h.elim
  | _ :: _, [], _, _, _, h, _ => h.elim
  | _ :: _, _ :: _, [], _, _, h, _ => h.elim

/-- The contract of a law whose arguments hold no address. -/
theorem contract {H : Type} {enc : TypeId × Value → H} {f : FuncId} {fn : Func} {s : ChangeSpec} (hm : P.follows .mixedOrders = true) (laid : laidOutB P = true)
    (hfn : P.funcs[f]? = some fn) (hbody : fn.body.isNone = false) (hng : (fn.name == "runtime.NumGoroutine") = false)
    (hr : fn.params.toList.all (fun t => P.readableRec t && decide (t < P.types.size)) = true) (hflat : fn.params.toList.all (fun t => (flatT P t).isSome) = true)
    {t0 : TypeId} (hrt : fn.resultTypes = #[t0]) (hb : P.underlying t0 = some .bool) (hv : s.vars = [])
    (hspec : ∀ ds : List (DataW H), ds.length = fn.params.toList.length → s.fn H (ds ++ []) = { results := [.lit (.bool true)], args := ds, vars := [] })
    (core : ∀ as, TypedAll P fn.params.toList as → ∃ h' pw sw, EF (trFn P) [] f as [] = some (.bool true, h', pw, sw))
    (W : World) (base : Nat) (args : Array Value) (ds gs : List (DataW H)) (before : List MemPlace)
    (hval : ∀ (j : Nat) t v, fn.params[j]? = some t → args[j]? = some v → Value.okWide P W .any base t v)
    (hW : DataW.Whole enc P fn.params.toList s.vars false W args.toList ds gs before) :
    Calls P f args W fun e W' => ∃ v, e = .returned v ∧ s.post enc P fn false true false false W args v W' := by
  obtain ⟨p, q, hA, hV, hps, hfz, hnd⟩ := hW
  have hW0 : DataW.Whole enc P fn.params.toList s.vars false W args.toList ds gs before := ⟨p, q, hA, hV, hps, hfz, hnd⟩
  rw [hv] at hV
  have hgs : gs = [] ∧ q = [] := by
    cases gs with
    | nil => exact ⟨rfl, hV⟩
    | cons => exact hV.elim
  obtain ⟨rfl, rfl⟩ := hgs
  obtain ⟨hl1, hl2⟩ := trodAll_length hA
  have e0 : ∃ e0 : Emb, e0 = ⟨fun _ => none, fun _ => none⟩ := ⟨_, rfl⟩
  obtain ⟨e0, he0⟩ := e0
  obtain ⟨as, ha1, ha2⟩ := values_canon (e := e0) (w := W) (r := .any) (base := base) fn.params.toList args.toList hflat hl1 fun j t v h1 h2 => hval j t v (by simpa using h1) (by simpa using h2)
  obtain ⟨h', pw, sw, hev⟩ := core as ha2
  have hHR : HR W.heap.size [] e0 [] W := by
    subst he0
    exact ⟨fun _ _ h => by simp at h, fun _ _ _ h => by simp at h, fun _ _ _ h => by simp at h, Nat.le_refl _⟩
  have hlt : ∀ x ∈ p, x.block < W.heap.size := fun x hx => hW0.lt x (by rw [hps]; simp [hx])
  have hsnd := EF_sound hm W.heap.size [] f as [] _ _ _ _ hev e0 W args.toList hHR ha1
  have hcalls : Calls P f args W fun x w' => ∃ cv, x = .returned cv ∧ ∃ e', Out W.heap.size [] e0 [] W pw e' h' w' ∧ VR e' cv (.bool true) := by
    rcases hsnd with ⟨cv, w', hr, _⟩ | ⟨_, hc⟩
    · exfalso
      simp only [callFunc, Sem.run_bind, run_program, Result.andThen_ok, hfn, hbody, hng, Bool.false_eq_true, if_false, Sem.run_pure] at hr
      cases hr
    · simpa using hc
  refine hcalls.mono ?_
  rintro x w' ⟨cv, rfl, e', ho, hcv⟩
  have := hcv.inv_bool
  subst this
  refine ⟨_, rfl, ?_⟩
  refine ⟨ds, [], before, [], p, [], hW0, ?_, ?_, ?_, RowKit.Below.frame ho.blw _, fun h => by cases h⟩
  · rw [hspec ds (by rw [hl2]), hrt]
    exact ⟨[], [], RowKit.shut_bool hb true, rfl, rfl⟩
  · rw [hspec ds (by rw [hl2])]
    exact trodAll_stays laid ho.blw hr hA hlt
  · rw [hspec ds (by rw [hl2]), hv]
    rfl

end Go.AE
