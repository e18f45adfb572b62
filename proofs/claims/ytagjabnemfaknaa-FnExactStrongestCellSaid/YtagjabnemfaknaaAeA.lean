/-
  A statement whose order is open, third part: whatever order is taken, the end is the evaluator's.
-/
import Derived.Test.YtagjabnemfaknaaAe9
namespace Go.AE
set_option linter.unusedVariables false
set_option linter.unusedSimpArgs false

variable {e e' : Emb} {B : Nat} {R h : H} {w w' : World} {P : Program}

def zeroOf : AOp → List Value
  | .alloc z => z
  | _ => []

/-- The new variables, ahead of all. -/
theorem allocs {F : Ora} {R : H} {dst : Nat → Option Nat} {key : Nat → Nat} {fr0 : Fr} : ∀ (L : List (AOper × Nat)) (s s' : St) (S : Nat → Prop) (val0 : Nat → Value),
    (∀ x ∈ L, dst x.2 = x.1.dst) → L.Pairwise (fun x y => key x.2 < key y.2) → (∀ i, S i → ∀ x ∈ L, key i < key x.2) →
    (∀ x ∈ L, kindO x.1.op = 3 ∧ x.1.guard = none) → FS dst key S val0 fr0 s.fr → evO F R (L.map (·.1)) s = some s' →
    ∃ (val : Nat → Value) (idf : Nat → Nat), (∀ i, S i → val i = val0 i) ∧ FS dst key (fun k => S k ∨ ∃ y ∈ L, y.2 = k) val fr0 s'.fr ∧ s'.h = s.h ++ L.map (fun x => zeroOf x.1.op) ∧ s'.pw = s.pw ∧ s'.sw = s.sw ∧
      (∀ x ∈ L, val x.2 = .pointer (some ⟨idf x.2, 0, none⟩) ∧ s.h.length ≤ idf x.2 ∧ s'.h[idf x.2]? = some (zeroOf x.1.op)) ∧
      (∀ x ∈ L, ∀ y ∈ L, idf x.2 = idf y.2 → x.2 = y.2)
  | [], s, s', S, val0, _, _, _, _, hf, hev => by
    simp only [List.map_nil, evO] at hev; cases hev
    exact ⟨val0, fun _ => 0, fun _ _ => rfl, hf.congr (by simp), by simp, rfl, rfl, by simp, by simp⟩
  | (o, j) :: L, s, s', S, val0, hd, hp, hk, h3, hf, hev => by
    have hp' := List.pairwise_cons.1 hp
    have hkj : ∀ i, S i → key i < key j := fun i hi => hk i hi (o, j) (by simp)
    have hjS : ¬ S j := fun hh => by have := hkj j hh; omega
    obtain ⟨ho, hg⟩ := h3 (o, j) (by simp)
    simp only at ho hg
    obtain ⟨od, og, oo⟩ := o
    simp only at ho hg
    subst hg
    cases oo <;> simp only [kindO] at ho <;> try (exact absurd ho (by decide))
    rename_i z
    simp only [List.map_cons, evO, gok, if_true, evOp, Option.bind_some] at hev
    let v : Value := .pointer (some (here s))
    let val1 : Nat → Value := fun i => if i = j then v else val0 i
    have hf1 : FS dst key (fun i => S i ∨ i = j) val1 fr0 (put (new s z) od v).fr := by
      have hfs : FS dst key S val0 fr0 (new s z).fr := hf
      exact hfs.put (fun i _ hi _ _ => hkj i hi) v (fun i hi => by
        have hne : i ≠ j := fun e0 => hjS (e0 ▸ hi)
        simp only [val1, if_neg hne]) (by simp [val1]) (hd (⟨od, none, .alloc z⟩, j) (List.mem_cons_self ..))
    have hput : (put (new s z) od v).h = s.h ++ [z] ∧ (put (new s z) od v).pw = s.pw ∧ (put (new s z) od v).sw = s.sw := by unfold put; split <;> exact ⟨rfl, rfl, rfl⟩
    obtain ⟨val, idf, hv, hF, hh, hpw, hsw, hval, hinj⟩ := allocs L _ s' (fun i => S i ∨ i = j) val1 (fun x hx => hd x (by simp [hx])) hp'.2
      (fun i hi x hx => by
        rcases hi with hi | hi
        · exact hk i hi x (by simp [hx])
        · subst hi; exact hp'.1 x hx) (fun x hx => h3 x (by simp [hx])) hf1 hev
    have hjL : ∀ y ∈ L, y.2 ≠ j := fun y hy e0 => by have := hp'.1 y hy; simp only at this; rw [e0] at this; omega
    rw [hput.1] at hh hval
    refine ⟨val, fun i => if i = j then s.h.length else idf i, ?_, ?_, by rw [hh]; simp [zeroOf], by rw [hpw, hput.2.1], by rw [hsw, hput.2.2], ?_, ?_⟩
    · intro i hi
      have hne : i ≠ j := fun e0 => hjS (e0 ▸ hi)
      rw [hv i (.inl hi)]
      simp only [val1, if_neg hne]
    · refine hF.congr fun i => ?_
      constructor
      · rintro ((hi | rfl) | ⟨y, hy, rfl⟩)
        · exact .inl hi
        · exact .inr ⟨(_, i), List.mem_cons_self .., rfl⟩
        · exact .inr ⟨y, by simp [hy], rfl⟩
      · rintro (hi | ⟨y, hy, rfl⟩)
        · exact .inl (.inl hi)
        · rcases List.mem_cons.1 hy with rfl | hy
          · exact .inl (.inr rfl)
          · exact .inr ⟨y, hy, rfl⟩
    · intro x hx
      rcases List.mem_cons.1 hx with rfl | hxL
      · simp only [if_true]
        refine ⟨by rw [hv j (.inr rfl)]; simp [val1, v, here], Nat.le_refl _, ?_⟩
        rw [hh]; simp [zeroOf]
      · simp only [if_neg (hjL x hxL)]
        obtain ⟨h1, h2, h4⟩ := hval x hxL
        exact ⟨h1, by simp at h2; omega, h4⟩
    · intro x hx y hy hxy
      rcases List.mem_cons.1 hx with rfl | hxL <;> rcases List.mem_cons.1 hy with rfl | hyL
      · rfl
      · simp only [if_true, if_neg (hjL y hyL)] at hxy
        have := (hval y hyL).2.1
        simp at this; omega
      · simp only [if_true, if_neg (hjL x hxL)] at hxy
        have := (hval x hxL).2.1
        simp at this; omega
      · simp only [if_neg (hjL x hxL), if_neg (hjL y hyL)] at hxy
        exact hinj x hxL y hyL hxy

/-- A new variable at a place that the evaluator has already laid. -/
theorem HR.alloc_at (H' : HR B R e h w) {vs as : List Value} (hv : F2 (CR e) vs as) (el : TypeId) {i : Nat} (hi : h[i]? = some as) (hn : e.φ i = none) :
    HR B R (e.add i w.heap.size) h (w.alloc (.cells vs.toArray el)) ∧ e.Le (e.add i w.heap.size) := by
  have hle : e.Le (e.add i w.heap.size) := ⟨rfl, fun j b hj => by
    unfold Emb.add; simp only
    rw [if_neg (fun hh => by rw [hh, hn] at hj; cases hj)]; exact hj⟩
  have hold : ∀ b, b < w.heap.size → (w.alloc (.cells vs.toArray el)).heap[b]? = w.heap[b]? := fun b hb => RowKit.Below.heap_alloc _ _ _ hb
  refine ⟨⟨?_, ?_, ?_, ?_⟩, hle⟩
  · intro j b hj
    unfold Emb.add at hj
    simp only at hj
    split at hj
    · rename_i hj0
      subst hj0
      cases hj
      exact ⟨as, hi, vs, el, by show (w.heap.push _)[w.heap.size]? = _; simp, hv.mono fun _ _ => CR.mono hle, H'.size⟩
    · obtain ⟨cs', hc', vs', el', hb', hf', hB'⟩ := H'.dom _ _ hj
      exact ⟨cs', hc', vs', el', by rw [hold _ (Array.getElem?_eq_some_iff.1 hb').1]; exact hb', hf'.mono fun _ _ => CR.mono hle, hB'⟩
  · intro a b c ha hb
    unfold Emb.add at ha hb
    simp only at ha hb
    have hlt : ∀ k, e.φ k = some c → c < w.heap.size := fun k hk => by
      obtain ⟨_, _, _, _, hb', _⟩ := H'.dom _ _ hk
      exact (Array.getElem?_eq_some_iff.1 hb').1
    split at ha <;> split at hb
    · simp_all
    · cases ha; have := hlt _ hb; omega
    · cases hb; have := hlt _ ha; omega
    · exact H'.inj _ _ _ ha hb
  · intro j b base hj
    obtain ⟨hlt, cs', hc', c, el', fr, hb', hf'⟩ := H'.ro _ _ _ hj
    refine ⟨hlt, cs', hc', c, el', fr, ?_, fun o a ho => ?_⟩
    · rw [hold _ (by have := H'.size; omega)]; exact hb'
    · obtain ⟨v, hv, hr⟩ := hf' _ _ ho
      exact ⟨v, hv, hr.mono hle⟩
  · have := H'.size; show B ≤ (w.heap.push _).size; simp; omega

theorem trOpers_get {N : Nat} {ops : Array Oper} : ∀ {l : List Oper} {al : List AOper}, trOpers P N ops l = some al → l.length = al.length ∧ ∀ (i : Nat) (o : Oper), l[i]? = some o → ∃ op, al[i]? = some op ∧ trOper P N ops o = some op
  | [], al, h => by simp only [trOpers] at h; cases h; exact ⟨rfl, by simp⟩
  | o :: l, al, h => by
    simp only [trOpers] at h
    obtain ⟨x, hx, h⟩ := Option.bind_eq_some_iff.1 h
    obtain ⟨al', ha, rfl⟩ := Option.map_eq_some_iff.1 h
    obtain ⟨h1, h2⟩ := trOpers_get ha
    refine ⟨by simp [h1], fun i o' ho => ?_⟩
    cases i with
    | zero => simp at ho; subst ho; exact ⟨x, rfl, hx⟩
    | succ i => simp at ho; simpa using h2 i o' ho

/-- What the look at a statement whose order is open has found. -/
structure DOK (ol : List Oper) (al : List AOper) (m : List Nat) : Prop where
  mok : MOK ol m
  g3 : ∀ (j : Nat) (o : AOper), al[j]? = some o → kindO o.op = 3 → o.guard = none
  clash : ∀ (i j : Nat) (oi oj : AOper), al[i]? = some oi → al[j]? = some oj → i < j → clash oi oj = true → (m.getD j 0).testBit i = true ∧ kindO oj.op ≠ 3
  k12 : ∀ (i j : Nat) (oi oj : AOper), al[i]? = some oi → al[j]? = some oj → kindO oj.op = 2 → kindO oi.op = 1 → (m.getD j 0).testBit i = true ∨ (m.getD i 0).testBit j = true
  k22 : ∀ (i j : Nat) (oi oj : AOper), al[i]? = some oi → al[j]? = some oj → kindO oj.op = 2 → kindO oi.op = 2 → i < j → (m.getD j 0).testBit i = true

theorem dok_of {ol : List Oper} {al : List AOper} (h : drawOK ol al = true) : DOK ol al (masks ol []) := by
  unfold drawOK at h
  simp only [Bool.and_eq_true, List.all_eq_true, List.mem_range] at h
  obtain ⟨h1, h2⟩ := h
  have hdep : ∀ j i, Dep ol j i → i < j := by
    rintro j i ⟨o, ho, ed, hm, hb, rfl⟩
    have := h1 (o, j) (by rw [List.mem_zipIdx_iff_getElem?]; exact ho)
    have := this ed hm
    simp [hb] at this
    exact this
  have hpair : ∀ (i j : Nat) (oi oj : AOper), al[i]? = some oi → al[j]? = some oj → pairOK (masks ol []) al i j = true := by
    intro i j oi oj hi hj
    exact (h2 j (List.getElem?_eq_some_iff.1 hj).1).2 i (List.getElem?_eq_some_iff.1 hi).1
  refine ⟨mok_of hdep, ?_, ?_, ?_, ?_⟩
  · intro j o ho hk
    have := (h2 j (List.getElem?_eq_some_iff.1 ho).1).1
    rw [ho] at this
    simp [hk] at this
    exact this
  · intro i j oi oj hi hj hlt hc
    have := hpair i j oi oj hi hj
    unfold pairOK at this
    rw [hi, hj] at this
    simp only [Bool.and_eq_true] at this
    have := this.1.1
    simp [hlt, hc] at this
    exact this
  · intro i j oi oj hi hj hkj hki
    have := hpair i j oi oj hi hj
    unfold pairOK at this
    rw [hi, hj] at this
    simp only [Bool.and_eq_true] at this
    have := this.1.2
    simp [hkj, hki] at this
    exact this
  · intro i j oi oj hi hj hkj hki hlt
    have := hpair i j oi oj hi hj
    unfold pairOK at this
    rw [hi, hj] at this
    simp only [Bool.and_eq_true] at this
    have := this.2
    simp [hkj, hki, hlt] at this
    exact this

theorem kindAt_of {al : List AOper} {i : Nat} {o : AOper} (h : al[i]? = some o) : kindAt al i = kindO o.op := by simp [kindAt, h]

theorem late_iff {m : List Nat} {al : List AOper} {j : Nat} : lateB m al j = true ↔ kindAt al j = 2 ∨ ∃ i, i < al.length ∧ (m.getD j 0).testBit i = true ∧ kindAt al i = 2 := by
  unfold lateB
  simp [List.any_eq_true]

theorem cls_le (m : List Nat) (al : List AOper) (j : Nat) : clsB m al j ≤ 2 := by
  unfold clsB
  split
  · omega
  · split <;> omega

/-- The selected operations, with their places. -/
def selI (m : List Nat) (al : List AOper) (c : Nat) : List (AOper × Nat) := al.zipIdx.filter fun (_, i) => clsB m al i == c
theorem sel_eq (m : List Nat) (al : List AOper) (c : Nat) : sel m al c = (selI m al c).map (·.1) := rfl
theorem mem_selI {m : List Nat} {al : List AOper} {c : Nat} {x : AOper × Nat} : x ∈ selI m al c ↔ al[x.2]? = some x.1 ∧ clsB m al x.2 = c := by
  unfold selI
  rw [List.mem_filter, List.mem_zipIdx_iff_getElem?]
  simp
theorem selI_sorted (m : List Nat) (al : List AOper) (c : Nat) : (selI m al c).Pairwise fun x y => x.2 < y.2 := by
  unfold selI
  refine List.Pairwise.filter _ ?_
  have : ∀ (l : List AOper) (k : Nat), (l.zipIdx k).Pairwise fun x y => x.2 < y.2 := by
    intro l
    induction l with
    | nil => intro k; simp
    | cons a l ih =>
      intro k
      rw [List.zipIdx_cons, List.pairwise_cons]
      refine ⟨fun y hy => ?_, ih (k + 1)⟩
      have := List.le_snd_of_mem_zipIdx hy
      simp only at this ⊢
      omega
  exact this al 0

end Go.AE
