/-
  A statement whose order is open: whatever order its edges allow, it comes to what the evaluator gives.
-/
import Derived.Test.YtagjabnemfaknaaAe7
import Derived.Orders
namespace Go.AE
set_option linter.unusedVariables false
set_option linter.unusedSimpArgs false

variable {e e' : Emb} {B : Nat} {R h : H} {w w' : World} {P : Program}

/-! ### Which operations must have gone before -/
theorem msk_bit (acc : List Nat) (i : Nat) : ∀ (es : List Edge) (m0 : Nat), (es.foldl (fun m e => if Region.binds .any e then m ||| (2 ^ e.on ||| acc.getD e.on 0) else m) m0).testBit i = true ↔
    m0.testBit i = true ∨ ∃ e ∈ es, Region.binds .any e = true ∧ (e.on = i ∨ (acc.getD e.on 0).testBit i = true)
  | [], m0 => by simp
  | d :: es, m0 => by
    rw [List.foldl_cons, msk_bit acc i es]
    cases hb : Region.binds .any d with
    | true =>
      simp only [if_true, Nat.testBit_or, Bool.or_eq_true, List.mem_cons, exists_eq_or_imp, hb, true_and]
      have : (2 ^ d.on).testBit i = true ↔ d.on = i := by simp [Nat.testBit_two_pow]
      rw [this]
      constructor
      · rintro ((h | h | h) | h)
        · exact .inl h
        · exact .inr (.inl (.inl h))
        · exact .inr (.inl (.inr h))
        · exact .inr (.inr h)
      · rintro (h | (h | h) | h)
        · exact .inl (.inl h)
        · exact .inl (.inr (.inl h))
        · exact .inl (.inr (.inr h))
        · exact .inr h
    | false =>
      simp only [Bool.false_eq_true, if_false, List.mem_cons, exists_eq_or_imp, hb, false_and, false_or]

theorem masks_spec : ∀ (l : List Oper) (acc : List Nat), ∃ rest, masks l acc = acc ++ rest ∧ rest.length = l.length ∧
    ∀ k o, l[k]? = some o → rest[k]? = some (msk (acc ++ rest.take k) o.after.toList)
  | [], acc => ⟨[], by simp [masks], rfl, by simp⟩
  | o :: l, acc => by
    obtain ⟨rest, h1, h2, h3⟩ := masks_spec l (acc ++ [msk acc o.after.toList])
    refine ⟨msk acc o.after.toList :: rest, by simp [masks, h1], by simp [h2], ?_⟩
    intro k o' hk
    cases k with
    | zero => simp at hk; subst hk; simp
    | succ k =>
      simp at hk
      have := h3 k o' hk
      simp [this]

/-- The edges of an operation, those that bind. -/
def Dep (ol : List Oper) (j i : Nat) : Prop := ∃ o, ol[j]? = some o ∧ ∃ ed ∈ o.after.toList, Region.binds .any ed = true ∧ ed.on = i

structure MOK (ol : List Oper) (m : List Nat) : Prop where
  lt : ∀ j i, Dep ol j i → i < j
  bit : ∀ j i, (m.getD j 0).testBit i = true ↔ Dep ol j i ∨ ∃ k, Dep ol j k ∧ (m.getD k 0).testBit i = true

theorem mok_of {ol : List Oper} (hlt : ∀ j i, Dep ol j i → i < j) : MOK ol (masks ol []) := by
  refine ⟨hlt, fun j i => ?_⟩
  obtain ⟨rest, h1, h2, h3⟩ := masks_spec ol []
  simp only [List.nil_append] at h1 h3
  rw [h1]
  by_cases hj : j < ol.length
  · have ho : ol[j]? = some ol[j] := List.getElem?_eq_getElem hj
    have hr := h3 j _ ho
    have hg : rest.getD j 0 = msk (rest.take j) (ol[j]).after.toList := by simp [List.getD, hr]
    rw [hg]
    unfold msk
    rw [msk_bit]
    simp only [Nat.zero_testBit, Bool.false_eq_true, false_or]
    have hsame : ∀ k, k < j → (rest.take j).getD k 0 = rest.getD k 0 := by
      intro k hk
      simp [List.getD, List.getElem?_take, hk]
    constructor
    · rintro ⟨ed, hm, hb, h | h⟩
      · exact .inl ⟨_, ho, ed, hm, hb, h⟩
      · have hd : Dep ol j ed.on := ⟨_, ho, ed, hm, hb, rfl⟩
        exact .inr ⟨ed.on, hd, by rw [← hsame _ (hlt _ _ hd)]; exact h⟩
    · rintro (⟨o, ho', ed, hm, hb, hh⟩ | ⟨k, ⟨o, ho', ed, hm, hb, hh⟩, hk⟩)
      · rw [ho] at ho'; cases ho'; exact ⟨ed, hm, hb, .inl hh⟩
      · have hd : Dep ol j k := ⟨o, ho', ed, hm, hb, hh⟩
        rw [ho] at ho'; cases ho'
        exact ⟨ed, hm, hb, .inr (by rw [hh, hsame _ (hlt _ _ hd)]; exact hk)⟩
  · have hn : ol[j]? = none := by simp; omega
    have hg : rest.getD j 0 = 0 := by simp [List.getD, show rest[j]? = none by simp; omega]
    rw [hg]
    simp only [Nat.zero_testBit, Bool.false_eq_true, false_iff, not_or, not_exists, not_and]
    refine ⟨?_, ?_⟩
    · rintro ⟨o, ho, _⟩; rw [hn] at ho; cases ho
    · rintro k ⟨o, ho, _⟩; rw [hn] at ho; cases ho

theorem MOK.closed {ol : List Oper} {m : List Nat} (hm : MOK ol m) {D : Nat → Prop} (hD : ∀ j i, D j → Dep ol j i → D i) : ∀ j i, D j → (m.getD j 0).testBit i = true → D i := by
  intro j
  induction j using Nat.strongRecOn with
  | _ j ih =>
    intro i hj hb
    rcases (hm.bit j i).1 hb with hd | ⟨k, hd, hk⟩
    · exact hD _ _ hj hd
    · exact ih k (hm.lt _ _ hd) i (hD _ _ hj hd) hk
theorem MOK.trans {ol : List Oper} {m : List Nat} (hm : MOK ol m) : ∀ j i k, (m.getD j 0).testBit i = true → (m.getD i 0).testBit k = true → (m.getD j 0).testBit k = true := by
  intro j
  induction j using Nat.strongRecOn with
  | _ j ih =>
    intro i k h1 h2
    rcases (hm.bit j i).1 h1 with hd | ⟨l, hd, hl⟩
    · exact (hm.bit j k).2 (.inr ⟨i, hd, h2⟩)
    · exact (hm.bit j k).2 (.inr ⟨l, hd, ih l (hm.lt _ _ hd) i k hl h2⟩)
theorem MOK.less {ol : List Oper} {m : List Nat} (hm : MOK ol m) : ∀ j i, (m.getD j 0).testBit i = true → i < j := by
  intro j
  induction j using Nat.strongRecOn with
  | _ j ih =>
    intro i h
    rcases (hm.bit j i).1 h with hd | ⟨l, hd, hl⟩
    · exact hm.lt _ _ hd
    · have := ih l (hm.lt _ _ hd) i hl; have := hm.lt _ _ hd; omega

/-! ### The evaluator's own order, operation by operation -/
def evO' (O : Nat → Ora) (R : H) : List (AOper × Nat) → St → Option St
  | [], s => some s
  | (o, i) :: l, s =>
    if gok s.fr o.guard then (evOp (O i) R o.op s).bind fun (v, s1) => evO' O R l (put s1 o.dst v)
    else evO' O R l (put s o.dst undef)

theorem evO'_eq {O : Nat → Ora} {F : Ora} {R : H} : ∀ (l : List (AOper × Nat)) (s : St), (∀ x ∈ l, O x.2 = F) → evO' O R l s = evO F R (l.map (·.1)) s
  | [], s, _ => rfl
  | (o, i) :: l, s, h => by
    simp only [evO', List.map_cons, evO]
    rw [h (o, i) (by simp)]
    split
    · congr 1; funext x; exact evO'_eq l _ fun y hy => h y (by simp [hy])
    · exact evO'_eq l _ fun y hy => h y (by simp [hy])
theorem evO'_append {O : Nat → Ora} {R : H} : ∀ (l k : List (AOper × Nat)) (s : St), evO' O R (l ++ k) s = (evO' O R l s).bind fun s => evO' O R k s
  | [], k, s => rfl
  | (o, i) :: l, k, s => by
    simp only [evO', List.cons_append]
    split
    · cases evOp (O i) R o.op s with
      | none => rfl
      | some x => simp only [Option.bind_some]; exact evO'_append l k _
    · exact evO'_append l k _

/-- The frame after those in S: each slot holds what the last of them that writes it has given. -/
def FS (dst : Nat → Option Nat) (key : Nat → Nat) (S : Nat → Prop) (val : Nat → Value) (fr0 fr : Fr) : Prop :=
  ∀ t, (∀ i, S i → dst i = some t → (∀ i', S i' → dst i' = some t → key i' ≤ key i) → fr t = val i) ∧ ((∀ i, S i → dst i ≠ some t) → fr t = fr0 t)
/-- The blocks after those in S. -/
def HS (kk : Nat → Prop) (key : Nat → Nat) (S : Nat → Prop) (nx : Nat → St) (h0 h : H) : Prop :=
  (∀ i, S i → kk i → (∀ i', S i' → kk i' → key i' ≤ key i) → h = (nx i).h) ∧ ((∀ i, S i → ¬ kk i) → h = h0)

theorem FS.put {dst : Nat → Option Nat} {key : Nat → Nat} {S : Nat → Prop} {val : Nat → Value} {fr0 : Fr} {s : St} (hS : FS dst key S val fr0 s.fr) {j : Nat} (hk : ∀ i t, S i → dst i = some t → dst j = some t → key i < key j) (v : Value)
    {val' : Nat → Value} (hv : ∀ i, S i → val' i = val i) (hj : val' j = v) {d : Option Nat} (hd : dst j = d) : FS dst key (fun i => S i ∨ i = j) val' fr0 (Go.AE.put s d v).fr := by
  intro t
  unfold Go.AE.put
  constructor
  · intro i hi hdi hmax
    by_cases hjt : dst j = some t
    · have hij : i = j := by
        rcases hi with hi | hi
        · have := hmax j (.inr rfl) hjt; have := hk i t hi hdi hjt; omega
        · exact hi
      subst hij
      rw [← hd, hjt]
      simp [upd, hj]
    · have hij : S i := hi.resolve_right (fun hh => hjt (hh ▸ hdi))
      rw [hv i hij, ← (hS t).1 i hij hdi fun i' hi' hd' => hmax i' (.inl hi') hd']
      subst hd
      cases hdj : dst j with
      | none => rfl
      | some t' => simp only [upd]; rw [if_neg (fun hh => hjt (by rw [hdj, hh]))]
  · intro hn
    have hjt : dst j ≠ some t := hn j (.inr rfl)
    rw [← (hS t).2 fun i hi => hn i (.inl hi)]
    subst hd
    cases hdj : dst j with
    | none => rfl
    | some t' => simp only [upd]; rw [if_neg (fun hh => hjt (by rw [hdj, hh]))]

theorem FS.congr {dst : Nat → Option Nat} {key : Nat → Nat} {S S' : Nat → Prop} {val : Nat → Value} {fr0 fr : Fr} (hS : FS dst key S val fr0 fr) (h : ∀ i, S i ↔ S' i) : FS dst key S' val fr0 fr := by
  have : S = S' := funext fun i => propext (h i)
  exact this ▸ hS
theorem FS.vals {dst : Nat → Option Nat} {key : Nat → Nat} {S : Nat → Prop} {val val' : Nat → Value} {fr0 fr : Fr} (hS : FS dst key S val fr0 fr) (h : ∀ i, S i → val' i = val i) : FS dst key S val' fr0 fr :=
  fun t => ⟨fun i hi hd hm => by rw [h i hi]; exact (hS t).1 i hi hd hm, (hS t).2⟩
theorem HS.congr {kk : Nat → Prop} {key : Nat → Nat} {S S' : Nat → Prop} {nx : Nat → St} {h0 h : H} (hS : HS kk key S nx h0 h) (hh : ∀ i, S i ↔ S' i) : HS kk key S' nx h0 h := by
  have : S = S' := funext fun i => propext (hh i)
  exact this ▸ hS
theorem HS.vals {kk : Nat → Prop} {key : Nat → Nat} {S : Nat → Prop} {nx nx' : Nat → St} {h0 h : H} (hS : HS kk key S nx h0 h) (hh : ∀ i, S i → nx' i = nx i) : HS kk key S nx' h0 h :=
  ⟨fun i hi hk hm => by rw [hh i hi]; exact hS.1 i hi hk hm, hS.2⟩

structure Tr (O : Nat → Ora) (R : H) (dst : Nat → Option Nat) (key : Nat → Nat) (kk : Nat → Prop) (fr0 : Fr) (h0 : H) (L : List (AOper × Nat)) (S : Nat → Prop) (s s' : St) (val : Nat → Value) (st nx : Nat → St) : Prop where
  fr : ∀ x ∈ L, FS dst key (fun k => S k ∨ ((∃ y ∈ L, y.2 = k) ∧ key k < key x.2)) val fr0 (st x.2).fr
  ht : ∀ x ∈ L, HS kk key (fun k => S k ∨ ((∃ y ∈ L, y.2 = k) ∧ key k < key x.2)) nx h0 (st x.2).h
  op : ∀ x ∈ L, if gok (st x.2).fr x.1.guard then evOp (O x.2) R x.1.op (st x.2) = some (val x.2, nx x.2) else val x.2 = undef ∧ nx x.2 = st x.2
  frE : FS dst key (fun k => S k ∨ ∃ y ∈ L, y.2 = k) val fr0 s'.fr
  htE : HS kk key (fun k => S k ∨ ∃ y ∈ L, y.2 = k) nx h0 s'.h
  l1 : ∀ x ∈ L, LvsS s (st x.2)
  l2 : ∀ x ∈ L, LvsS (nx x.2) s'

theorem trace {O : Nat → Ora} {R : H} (hO : ∀ i, LvsF (O i)) {dst : Nat → Option Nat} {key : Nat → Nat} {kk : Nat → Prop} {fr0 : Fr} {h0 : H} :
    ∀ (L : List (AOper × Nat)) (s s' : St) (S : Nat → Prop) (val0 : Nat → Value) (nx0 : Nat → St),
    (∀ x ∈ L, dst x.2 = x.1.dst) → L.Pairwise (fun x y => key x.2 < key y.2) → (∀ i, S i → ∀ x ∈ L, key i < key x.2) →
    (∀ x ∈ L, ¬ kk x.2 → ∀ F s v s1, evOp F R x.1.op s = some (v, s1) → (F = O x.2) → s1.h = s.h) →
    FS dst key S val0 fr0 s.fr → HS kk key S nx0 h0 s.h → evO' O R L s = some s' →
    ∃ val st nx, (∀ i, S i → val i = val0 i ∧ nx i = nx0 i) ∧ Tr O R dst key kk fr0 h0 L S s s' val st nx
  | [], s, s', S, val0, nx0, _, _, _, _, hf, hh, hev => by
    simp only [evO'] at hev; cases hev
    refine ⟨val0, fun _ => s, nx0, fun _ _ => ⟨rfl, rfl⟩, ⟨by simp, by simp, by simp, hf.congr (by simp), hh.congr (by simp), by simp, by simp⟩⟩
  | (o, j) :: L, s, s', S, val0, nx0, hd, hp, hk, hq, hf, hh, hev => by
    have hp' := List.pairwise_cons.1 hp
    have hkj : ∀ i, S i → key i < key j := fun i hi => hk i hi (o, j) (by simp)
    have hjS : ¬ S j := fun hh => by have := hkj j hh; omega
    simp only [evO'] at hev
    obtain ⟨v, s1, hop, hcont, hlv⟩ : ∃ v s1, (if gok s.fr o.guard then evOp (O j) R o.op s = some (v, s1) else v = undef ∧ s1 = s) ∧ evO' O R L (put s1 o.dst v) = some s' ∧ (LvsS s s1 ∧ s1.fr = s.fr) := by
      split at hev
      · rename_i hg
        obtain ⟨⟨v, s1⟩, h1, h2⟩ := Option.bind_eq_some_iff.1 hev
        exact ⟨v, s1, by rw [if_pos hg]; exact h1, h2, evOp_lvs (hO j) h1⟩
      · rename_i hg
        exact ⟨undef, s, by rw [if_neg hg]; exact ⟨rfl, rfl⟩, hev, LvsS.refl s, rfl⟩
    let val1 : Nat → Value := fun i => if i = j then v else val0 i
    let nx1 : Nat → St := fun i => if i = j then s1 else nx0 i
    have hf1 : FS dst key (fun i => S i ∨ i = j) val1 fr0 (put s1 o.dst v).fr := by
      have hfs : FS dst key S val0 fr0 s1.fr := hlv.2 ▸ hf
      exact hfs.put (fun i _ hi _ _ => hkj i hi) v (fun i hi => by
        have hne : i ≠ j := fun e0 => hjS (e0 ▸ hi)
        simp only [val1, if_neg hne]) (by simp [val1]) (hd (o, j) (by simp))
    have hput : (put s1 o.dst v).h = s1.h := by unfold put; split <;> rfl
    have hh1 : HS kk key (fun i => S i ∨ i = j) nx1 h0 (put s1 o.dst v).h := by
      rw [hput]
      by_cases hkk : kk j
      · constructor
        · intro i hi hki hmax
          have hij : i = j := by
            rcases hi with hi | hi
            · have := hmax j (.inr rfl) hkk; have := hkj i hi; omega
            · exact hi
          subst hij; simp [nx1]
        · intro hn; exact absurd hkk (hn j (.inr rfl))
      · have hsh : s1.h = s.h := by
          by_cases hg : gok s.fr o.guard = true
          · rw [if_pos hg] at hop; exact hq (o, j) (by simp) hkk _ _ _ _ hop rfl
          · rw [if_neg hg] at hop; rw [hop.2]
        rw [hsh]
        constructor
        · intro i hi hki hmax
          have hij : S i := hi.resolve_right (fun e0 => hkk (e0 ▸ hki))
          rw [hh.1 i hij hki fun i' hi' hk' => hmax i' (.inl hi') hk']
          have hne : i ≠ j := fun e0 => hjS (e0 ▸ hij)
          simp only [nx1, if_neg hne]
        · intro hn; exact hh.2 fun i hi => hn i (.inl hi)
    obtain ⟨val, st, nx, hsame, T⟩ := trace hO L (put s1 o.dst v) s' (fun i => S i ∨ i = j) val1 nx1 (fun x hx => hd x (by simp [hx])) hp'.2
      (fun i hi x hx => by
        rcases hi with hi | hi
        · exact hk i hi x (by simp [hx])
        · subst hi; exact hp'.1 x hx)
      (fun x hx => hq x (by simp [hx])) hf1 hh1 hcont
    have hjL : ∀ y ∈ L, y.2 ≠ j := fun y hy e0 => by have := hp'.1 y hy; simp only at this; rw [e0] at this; omega
    have hvj : val j = v := by rw [(hsame j (.inr rfl)).1]; simp [val1]
    have hnj : nx j = s1 := by rw [(hsame j (.inr rfl)).2]; simp [nx1]
    have hvS : ∀ i, S i → val i = val0 i ∧ nx i = nx0 i := fun i hi => by
      have := hsame i (.inl hi)
      have hne : i ≠ j := fun e0 => hjS (e0 ▸ hi)
      simp only [val1, nx1, if_neg hne] at this
      exact this
    refine ⟨val, fun i => if i = j then s else st i, nx, hvS, ⟨?_, ?_, ?_, ?_, ?_, ?_, ?_⟩⟩
    · intro x hx
      rcases List.mem_cons.1 hx with rfl | hxL
      · simp only [if_true]
        refine (hf.vals fun i hi => (hvS i hi).1).congr fun i => ⟨.inl, ?_⟩
        rintro (hi | ⟨⟨y, hy, rfl⟩, hlt⟩)
        · exact hi
        · exfalso
          rcases List.mem_cons.1 hy with rfl | hy
          · simp at hlt
          · have := hp'.1 y hy; simp only at this; omega
      · simp only [if_neg (hjL x hxL)]
        refine (T.fr x hxL).congr fun i => ?_
        constructor
        · rintro ((hi | rfl) | ⟨⟨y, hy, rfl⟩, hlt⟩)
          · exact .inl hi
          · exact .inr ⟨⟨(o, i), by simp, rfl⟩, hp'.1 x hxL⟩
          · exact .inr ⟨⟨y, by simp [hy], rfl⟩, hlt⟩
        · rintro (hi | ⟨⟨y, hy, rfl⟩, hlt⟩)
          · exact .inl (.inl hi)
          · rcases List.mem_cons.1 hy with rfl | hy
            · exact .inl (.inr rfl)
            · exact .inr ⟨⟨y, hy, rfl⟩, hlt⟩
    · intro x hx
      rcases List.mem_cons.1 hx with rfl | hxL
      · simp only [if_true]
        refine (hh.vals fun i hi => (hvS i hi).2).congr fun i => ⟨.inl, ?_⟩
        rintro (hi | ⟨⟨y, hy, rfl⟩, hlt⟩)
        · exact hi
        · exfalso
          rcases List.mem_cons.1 hy with rfl | hy
          · simp at hlt
          · have := hp'.1 y hy; simp only at this; omega
      · simp only [if_neg (hjL x hxL)]
        refine (T.ht x hxL).congr fun i => ?_
        constructor
        · rintro ((hi | rfl) | ⟨⟨y, hy, rfl⟩, hlt⟩)
          · exact .inl hi
          · exact .inr ⟨⟨(o, i), by simp, rfl⟩, hp'.1 x hxL⟩
          · exact .inr ⟨⟨y, by simp [hy], rfl⟩, hlt⟩
        · rintro (hi | ⟨⟨y, hy, rfl⟩, hlt⟩)
          · exact .inl (.inl hi)
          · rcases List.mem_cons.1 hy with rfl | hy
            · exact .inl (.inr rfl)
            · exact .inr ⟨⟨y, hy, rfl⟩, hlt⟩
    · intro x hx
      rcases List.mem_cons.1 hx with rfl | hxL
      · simp only [if_true, hvj, hnj]; exact hop
      · simp only [if_neg (hjL x hxL)]; exact T.op x hxL
    · refine T.frE.congr fun i => ?_
      constructor
      · rintro ((hi | rfl) | ⟨y, hy, rfl⟩)
        · exact .inl hi
        · exact .inr ⟨(o, i), by simp, rfl⟩
        · exact .inr ⟨y, by simp [hy], rfl⟩
      · rintro (hi | ⟨y, hy, rfl⟩)
        · exact .inl (.inl hi)
        · rcases List.mem_cons.1 hy with rfl | hy
          · exact .inl (.inr rfl)
          · exact .inr ⟨y, hy, rfl⟩
    · refine T.htE.congr fun i => ?_
      constructor
      · rintro ((hi | rfl) | ⟨y, hy, rfl⟩)
        · exact .inl hi
        · exact .inr ⟨(o, i), by simp, rfl⟩
        · exact .inr ⟨y, by simp [hy], rfl⟩
      · rintro (hi | ⟨y, hy, rfl⟩)
        · exact .inl (.inl hi)
        · rcases List.mem_cons.1 hy with rfl | hy
          · exact .inl (.inr rfl)
          · exact .inr ⟨y, hy, rfl⟩
    · intro x hx
      rcases List.mem_cons.1 hx with rfl | hxL
      · simp only [if_true]; exact LvsS.refl s
      · simp only [if_neg (hjL x hxL)]
        exact hlv.1.trans ((put_lvs _ _ _).trans (T.l1 x hxL))
    · intro x hx
      rcases List.mem_cons.1 hx with rfl | hxL
      · simp only [hnj]
        have hrest : LvsS (put s1 o.dst v) s' := by
          have key2 : ∀ (L : List (AOper × Nat)) (a b : St), evO' O R L a = some b → LvsS a b := by
            intro L
            induction L with
            | nil => intro a b hab; simp only [evO'] at hab; cases hab; exact LvsS.refl a
            | cons x L ih =>
              obtain ⟨o, i⟩ := x
              intro a b hab
              simp only [evO'] at hab
              split at hab
              · obtain ⟨⟨v, c⟩, h1, h2⟩ := Option.bind_eq_some_iff.1 hab
                exact (evOp_lvs (hO i) h1).1.trans ((put_lvs _ _ _).trans (ih _ _ h2))
              · exact (put_lvs _ _ _).trans (ih _ _ hab)
          exact key2 L _ _ hcont
        exact (put_lvs _ _ _).trans hrest
      · exact T.l2 x hxL

end Go.AE
