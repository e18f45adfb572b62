/-
  A statement whose order is open, last part.
-/
import Derived.Test.YtagjabnemfaknaaAeA
namespace Go.AE
set_option linter.unusedVariables false
set_option linter.unusedSimpArgs false

variable {e e' : Emb} {B : Nat} {R h : H} {w w' : World} {P : Program}

theorem kindO_le (op : AOp) : kindO op ≤ 3 := by cases op <;> simp [kindO]

theorem gok_congr {fr fr' : Fr} {g : Option (Nat × Bool)} (h : ∀ t b, g = some (t, b) → fr' t = fr t) : gok fr' g = gok fr g := by
  cases g with
  | none => rfl
  | some tb => obtain ⟨t, b⟩ := tb; simp only [gok, h t b rfl]

theorem av_congr {fr fr' : Fr} {x : Operand} (h : ∀ t ∈ readsX x, fr' t = fr t) : av fr' x = av fr x := by
  cases x <;> simp [av, readsX] at *
  exact h

theorem clash_dst {a b : AOper} {t : Nat} (h : a.dst = some t) (h' : t ∈ readsO b ∨ b.dst = some t) : clash a b = true := by
  unfold clash
  rw [h]
  rcases h' with h' | h'
  · simp [h']
  · simp [h']
theorem clash_dst' {a b : AOper} {t : Nat} (h : b.dst = some t) (h' : t ∈ readsO a) : clash a b = true := by
  unfold clash
  rw [h]
  simp [h']

theorem alloc_of {o : Oper} {z : List Value} (h : trOp P o = some (.alloc z)) : ∃ t, o.op = .alloc t ∧ zeroL P t = some z := by
  cases hop : o.op <;> simp only [trOp, hop] at h
  case alloc t =>
    obtain ⟨z', hz, heq⟩ := Option.map_eq_some_iff.1 h
    cases heq; exact ⟨t, rfl, hz⟩
  case move => obtain ⟨_, _, h⟩ := Option.map_eq_some_iff.1 h; cases h
  case assign => obtain ⟨_, _, h⟩ := Option.map_eq_some_iff.1 h; cases h
  case pick => obtain ⟨_, _, h⟩ := Option.bind_eq_some_iff.1 h; obtain ⟨_, _, h⟩ := Option.bind_eq_some_iff.1 h; obtain ⟨_, _, h⟩ := Option.map_eq_some_iff.1 h; cases h
  case box => obtain ⟨_, _, h⟩ := Option.map_eq_some_iff.1 h; cases h
  case build =>
    split at h
    · obtain ⟨_, _, h⟩ := Option.bind_eq_some_iff.1 h
      split at h
      · obtain ⟨_, _, h⟩ := Option.map_eq_some_iff.1 h; cases h
      · cases h
    · obtain ⟨_, _, h⟩ := Option.bind_eq_some_iff.1 h; obtain ⟨_, _, h⟩ := Option.bind_eq_some_iff.1 h; obtain ⟨_, _, h⟩ := Option.map_eq_some_iff.1 h; cases h
    · cases h
  case buildSlice =>
    split at h
    · obtain ⟨_, _, h⟩ := Option.bind_eq_some_iff.1 h
      obtain ⟨_, _, h⟩ := Option.bind_eq_some_iff.1 h
      split at h
      · obtain ⟨_, _, h⟩ := Option.map_eq_some_iff.1 h; cases h
      · cases h
    · cases h
  case makeSlice =>
    split at h
    · obtain ⟨_, _, h⟩ := Option.bind_eq_some_iff.1 h
      obtain ⟨_, _, h⟩ := Option.bind_eq_some_iff.1 h
      split at h
      · split at h <;> cases h
      · cases h
    · cases h
  case load => obtain ⟨_, _, h⟩ := Option.bind_eq_some_iff.1 h; obtain ⟨_, _, h⟩ := Option.map_eq_some_iff.1 h; cases h
  case store => obtain ⟨_, _, h⟩ := Option.bind_eq_some_iff.1 h; obtain ⟨_, _, h⟩ := Option.bind_eq_some_iff.1 h; obtain ⟨_, _, h⟩ := Option.map_eq_some_iff.1 h; cases h
  case nilCheck => obtain ⟨_, _, h⟩ := Option.map_eq_some_iff.1 h; cases h
  case binOp =>
    obtain ⟨_, _, h⟩ := Option.bind_eq_some_iff.1 h
    obtain ⟨_, _, h⟩ := Option.bind_eq_some_iff.1 h
    split at h
    · split at h <;> cases h
    all_goals cases h
  case unOp => obtain ⟨_, _, h⟩ := Option.map_eq_some_iff.1 h; cases h
  case convert =>
    obtain ⟨_, _, h⟩ := Option.bind_eq_some_iff.1 h
    split at h <;> cases h
  case fieldAddr =>
    obtain ⟨⟨_, _, _⟩, _, h⟩ := Option.bind_eq_some_iff.1 h
    simp only at h
    split at h
    · cases h
    · obtain ⟨_, _, h⟩ := Option.map_eq_some_iff.1 h; cases h
  case field => obtain ⟨⟨_, _, _⟩, _, h⟩ := Option.bind_eq_some_iff.1 h; obtain ⟨_, _, h⟩ := Option.map_eq_some_iff.1 h; cases h
  case indexAddr =>
    obtain ⟨_, _, h⟩ := Option.bind_eq_some_iff.1 h
    obtain ⟨_, _, h⟩ := Option.bind_eq_some_iff.1 h
    split at h
    · obtain ⟨_, _, h⟩ := Option.map_eq_some_iff.1 h; cases h
    · obtain ⟨_, _, h⟩ := Option.map_eq_some_iff.1 h; cases h
    · cases h
  case index =>
    obtain ⟨_, _, h⟩ := Option.bind_eq_some_iff.1 h
    obtain ⟨_, _, h⟩ := Option.bind_eq_some_iff.1 h
    split at h
    · obtain ⟨_, _, h⟩ := Option.bind_eq_some_iff.1 h
      obtain ⟨_, _, h⟩ := Option.map_eq_some_iff.1 h; cases h
    · cases h
  case extract => obtain ⟨_, _, h⟩ := Option.map_eq_some_iff.1 h; cases h
  case slice t x lo hi mx =>
    cases mx with
    | some m => cases h
    | none =>
      obtain ⟨_, _, h⟩ := Option.bind_eq_some_iff.1 h
      obtain ⟨_, _, h⟩ := Option.bind_eq_some_iff.1 h
      obtain ⟨_, _, h⟩ := Option.bind_eq_some_iff.1 h
      split at h
      · obtain ⟨_, _, h⟩ := Option.map_eq_some_iff.1 h; cases h
      · obtain ⟨_, _, h⟩ := Option.map_eq_some_iff.1 h; cases h
      · cases h
  case call =>
    split at h
    · obtain ⟨_, _, h⟩ := Option.bind_eq_some_iff.1 h
      obtain ⟨_, _, h⟩ := Option.map_eq_some_iff.1 h; cases h
    · obtain ⟨_, _, h⟩ := Option.bind_eq_some_iff.1 h
      split at h
      · split at h <;> cases h
      all_goals cases h
    · cases h
  all_goals cases h

theorem store_of {o : Oper} {n : Nat} {x y : Operand} (h : trOp P o = some (.store n x y)) : ∃ x0, trX x0 = some x := by
  cases hop : o.op <;> simp only [trOp, hop] at h
  case alloc t => obtain ⟨_, _, h⟩ := Option.map_eq_some_iff.1 h; cases h
  case move => obtain ⟨_, _, h⟩ := Option.map_eq_some_iff.1 h; cases h
  case assign => obtain ⟨_, _, h⟩ := Option.map_eq_some_iff.1 h; cases h
  case pick => obtain ⟨_, _, h⟩ := Option.bind_eq_some_iff.1 h; obtain ⟨_, _, h⟩ := Option.bind_eq_some_iff.1 h; obtain ⟨_, _, h⟩ := Option.map_eq_some_iff.1 h; cases h
  case box => obtain ⟨_, _, h⟩ := Option.map_eq_some_iff.1 h; cases h
  case build =>
    split at h
    · obtain ⟨_, _, h⟩ := Option.bind_eq_some_iff.1 h
      split at h
      · obtain ⟨_, _, h⟩ := Option.map_eq_some_iff.1 h; cases h
      · cases h
    · obtain ⟨_, _, h⟩ := Option.bind_eq_some_iff.1 h; obtain ⟨_, _, h⟩ := Option.bind_eq_some_iff.1 h; obtain ⟨_, _, h⟩ := Option.map_eq_some_iff.1 h; cases h
    · cases h
  case buildSlice =>
    split at h
    · obtain ⟨_, _, h⟩ := Option.bind_eq_some_iff.1 h
      obtain ⟨_, _, h⟩ := Option.bind_eq_some_iff.1 h
      split at h
      · obtain ⟨_, _, h⟩ := Option.map_eq_some_iff.1 h; cases h
      · cases h
    · cases h
  case makeSlice =>
    split at h
    · obtain ⟨_, _, h⟩ := Option.bind_eq_some_iff.1 h
      obtain ⟨_, _, h⟩ := Option.bind_eq_some_iff.1 h
      split at h
      · split at h <;> cases h
      · cases h
    · cases h
  case load => obtain ⟨_, _, h⟩ := Option.bind_eq_some_iff.1 h; obtain ⟨_, _, h⟩ := Option.map_eq_some_iff.1 h; cases h
  case store => obtain ⟨_, _, h⟩ := Option.bind_eq_some_iff.1 h; obtain ⟨x', hx, h⟩ := Option.bind_eq_some_iff.1 h; obtain ⟨_, _, h⟩ := Option.map_eq_some_iff.1 h; cases h; exact ⟨_, hx⟩
  case nilCheck => obtain ⟨_, _, h⟩ := Option.map_eq_some_iff.1 h; cases h
  case binOp =>
    obtain ⟨_, _, h⟩ := Option.bind_eq_some_iff.1 h
    obtain ⟨_, _, h⟩ := Option.bind_eq_some_iff.1 h
    split at h
    · split at h <;> cases h
    all_goals cases h
  case unOp => obtain ⟨_, _, h⟩ := Option.map_eq_some_iff.1 h; cases h
  case convert =>
    obtain ⟨_, _, h⟩ := Option.bind_eq_some_iff.1 h
    split at h <;> cases h
  case fieldAddr =>
    obtain ⟨⟨_, _, _⟩, _, h⟩ := Option.bind_eq_some_iff.1 h
    simp only at h
    split at h
    · cases h
    · obtain ⟨_, _, h⟩ := Option.map_eq_some_iff.1 h; cases h
  case field => obtain ⟨⟨_, _, _⟩, _, h⟩ := Option.bind_eq_some_iff.1 h; obtain ⟨_, _, h⟩ := Option.map_eq_some_iff.1 h; cases h
  case indexAddr =>
    obtain ⟨_, _, h⟩ := Option.bind_eq_some_iff.1 h
    obtain ⟨_, _, h⟩ := Option.bind_eq_some_iff.1 h
    split at h
    · obtain ⟨_, _, h⟩ := Option.map_eq_some_iff.1 h; cases h
    · obtain ⟨_, _, h⟩ := Option.map_eq_some_iff.1 h; cases h
    · cases h
  case index =>
    obtain ⟨_, _, h⟩ := Option.bind_eq_some_iff.1 h
    obtain ⟨_, _, h⟩ := Option.bind_eq_some_iff.1 h
    split at h
    · obtain ⟨_, _, h⟩ := Option.bind_eq_some_iff.1 h
      obtain ⟨_, _, h⟩ := Option.map_eq_some_iff.1 h; cases h
    · cases h
  case extract => obtain ⟨_, _, h⟩ := Option.map_eq_some_iff.1 h; cases h
  case slice t x lo hi mx =>
    cases mx with
    | some m => cases h
    | none =>
      obtain ⟨_, _, h⟩ := Option.bind_eq_some_iff.1 h
      obtain ⟨_, _, h⟩ := Option.bind_eq_some_iff.1 h
      obtain ⟨_, _, h⟩ := Option.bind_eq_some_iff.1 h
      split at h
      · obtain ⟨_, _, h⟩ := Option.map_eq_some_iff.1 h; cases h
      · obtain ⟨_, _, h⟩ := Option.map_eq_some_iff.1 h; cases h
      · cases h
  case call =>
    split at h
    · obtain ⟨_, _, h⟩ := Option.bind_eq_some_iff.1 h
      obtain ⟨_, _, h⟩ := Option.map_eq_some_iff.1 h; cases h
    · obtain ⟨_, _, h⟩ := Option.bind_eq_some_iff.1 h
      split at h
      · split at h <;> cases h
      all_goals cases h
    · cases h
  all_goals cases h

/-- What writes or makes memory leaves other new variables alone. -/
theorem kind2_other {F : Ora} {R : H} {op : AOp} (h2 : kindO op = 2) {s s1 : St} {v : Value} (h : evOp F R op s = some (v, s1)) {e : Emb} {a : Act} {fr : Fr} (hs : s.fr = fr)
    (hfr : ∀ t, VR e (a.tmps.getD t undef) (fr t)) {o : Oper} (ht : trOp P o = some op) {i : Nat} (hi : i < s.h.length) (hn : e.φ i = none) : s1.h[i]? = s.h[i]? := by
  cases op <;> simp only [kindO] at h2 <;> try (exact absurd h2 (by decide))
  case box x =>
    simp only [evOp] at h
    split at h
    · cases h
    · cases h; simp [new, List.getElem?_append_left hi]
  case bslice z n ps =>
    simp only [evOp] at h
    obtain ⟨cs, hcs, heq⟩ := Option.map_eq_some_iff.1 h
    cases heq; simp [new, List.getElem?_append_left hi]
  case make bytes z x =>
    simp only [evOp] at h
    split at h
    · split at h
      · cases h; simp [new, List.getElem?_append_left hi]
      · cases h
    · cases h
  case store n x y =>
    obtain ⟨x0, hx⟩ := store_of ht
    simp only [evOp] at h
    split at h
    · rename_i q heq
      have k := eval_rel hfr hx
      rw [← hs, heq] at k
      obtain ⟨p, ep, hp⟩ := k.inv_ptr
      split at h
      · obtain ⟨h', hw, heq2⟩ := Option.map_eq_some_iff.1 h
        cases heq2
        unfold wr at hw
        unfold AR at hp
        split at hw
        · rename_i hsp
          rw [hsp] at hp
          obtain ⟨hφ, _⟩ := hp
          cases hb : s.h[q.block]? with
          | none => rw [hb] at hw; cases hw
          | some cs =>
            rw [hb] at hw
            simp only [Option.bind_some] at hw
            split at hw
            · cases hw
              have hne : q.block ≠ i := fun hh => by rw [hh, hn] at hφ; cases hφ
              simp [List.getElem?_set_ne hne]
            · cases hw
        · cases hw
      · cases h
    · cases h
  case append => simp only [evOp] at h; cases h
  case copy => simp only [evOp] at h; cases h

/-- What holds of the run while the operations of D have been done. -/
structure DI (P : Program) (N B : Nat) (R : H) (ol : List Oper) (al : List AOper) (dst : Nat → Option Nat) (key : Nat → Nat) (val : Nat → Value) (nx : Nat → St) (idf : Nat → Nat)
    (fr0 : Fr) (h0 hA : H) (e0 : Emb) (w0 : World) (pwE : Nat) (D : Nat → Prop) (e1 : Emb) (fr : Fr) (G : H) (a : Act) (w : World) : Prop where
  lt : ∀ i, D i → i < al.length
  closed : ∀ j i, D j → Dep ol j i → D i
  size : a.tmps.size = N
  def0 : a.defers = []
  tm : ∀ t, VR e1 (a.tmps.getD t undef) (fr t)
  hr : HR B R e1 G w
  fs : FS dst key D val fr0 fr
  hs : HS (fun i => kindAt al i = 2) key D nx hA G
  un : ∀ i o, al[i]? = some o → kindO o.op = 3 → ¬ D i → e1.φ (idf i) = none ∧ G[idf i]? = some (zeroOf o.op)
  le : e0.Le e1
  blw : Blw B w0 w
  cut : ∀ L, L ≤ pwE → L ≤ h0.length → HR B R (e0.cut L) h0 w0 → HR B R (e1.cut L) G w
  same : ∀ i, i < h0.length → e1.φ i = e0.φ i
  glen : h0.length ≤ G.length

theorem erase_mem {U : List Nat} {i k : Nat} (h : k ∈ U) (hne : k ≠ i) : k ∈ U.erase i := (List.mem_erase_of_ne hne).2 h

/-- All orders, by what is still to be done. -/
theorem any_of {Q : Exit → Act → World → Prop} {ops : Array Oper} (I : (Nat → Prop) → Act → World → Prop) {n : Nat} (hn : ops.size = n)
    (hlt : ∀ D a w, I D a w → ∀ i, D i → i < n)
    (hdep : ∀ j i, Dep ops.toList j i → i < j)
    (step : ∀ D a w j o, I D a w → ops[j]? = some o → ¬ D j → (∀ i, Dep ops.toList j i → D i) → ∀ K : Act → World → Prop, (∀ a' w', I (fun i => D i ∨ i = j) a' w' → K a' w') → wpOp P ops Q j K a w)
    (fin : ∀ D a w, I D a w → (∀ i, i < n → D i) → Q .normal a w) :
    ∀ (fuel : Nat) (U : List Nat) (listed : Array Bool) (a : Act) (w : World), listed.size = n → U.length ≤ fuel → (∀ i, i < n → listed.getD i false = false → i ∈ U) →
      I (fun i => listed.getD i false = true) a w → wpAny P .any ops Q fuel listed a w := by
  have all : ∀ (listed : Array Bool), listed.size = n → Region.ready .any ops listed = [] → ∀ i, i < n → listed.getD i false = true := by
    intro listed hs hr i
    induction i using Nat.strongRecOn with
    | _ i ih =>
      intro hi
      cases hd : listed.getD i false with
      | true => rfl
      | false =>
        exfalso
        have hio : i < ops.size := by omega
        have : i ∈ Region.ready .any ops listed := by
          rw [mem_ready]
          refine ⟨?_, ops[i], by simp [hio], fun ed he hb => ?_⟩
          · have h1 : i < listed.size := by omega
            simp only [Array.getD_eq_getD_getElem?, Array.getElem?_eq_getElem h1, Option.getD_some] at hd ⊢
            exact hd
          · have hdd : Dep ops.toList i ed.on := ⟨ops[i], by simp [hio], ed, by simpa using he, hb, rfl⟩
            have := hdep _ _ hdd
            exact ih ed.on this (by omega)
        rw [hr] at this
        cases this
  intro fuel
  induction fuel with
  | zero =>
    intro U listed a w hs hU hun hI
    have hall : ∀ i, i < n → listed.getD i false = true := by
      intro i hi
      cases hd : listed.getD i false with
      | true => rfl
      | false => have := hun i hi hd; have : U = [] := by simpa using hU
                 subst this; cases ‹i ∈ []›
    refine ⟨?_, fin _ _ _ hI hall⟩
    cases hr : Region.ready .any ops listed with
    | nil => rfl
    | cons j l =>
      exfalso
      have hj : j ∈ Region.ready .any ops listed := by rw [hr]; simp
      obtain ⟨h0, o, ho, _⟩ := mem_ready.1 hj
      have hjl : j < ops.size := (Array.getElem?_eq_some_iff.1 ho).1
      have := hall j (by omega)
      have h1 : j < listed.size := by omega
      simp only [Array.getD_eq_getD_getElem?, Array.getElem?_eq_getElem h1, Option.getD_some] at h0 this
      rw [h0] at this; cases this
  | succ fuel ih =>
    intro U listed a w hs hU hun hI
    refine ⟨fun hr => fin _ _ _ hI (all listed hs hr), fun j hj => ?_⟩
    obtain ⟨h0, o, ho, hdeps⟩ := mem_ready.1 hj
    have hjl : j < ops.size := (Array.getElem?_eq_some_iff.1 ho).1
    have h1 : j < listed.size := by omega
    have hjD : listed.getD j false = false := by
      simp only [Array.getD_eq_getD_getElem?, Array.getElem?_eq_getElem h1, Option.getD_some] at h0 ⊢
      exact h0
    refine step _ a w j o hI ho (by simp [hjD]) ?_ _ ?_
    · rintro i ⟨o', ho', ed, hm, hb, rfl⟩
      have : o' = o := by
        have h2 : ops.toList[j]? = ops[j]? := by simp
        rw [h2, ho] at ho'; cases ho'; rfl
      subst this
      exact hdeps ed (by simpa using hm) hb
    · intro a' w' hI'
      have hmem : j ∈ U := hun j (by omega) hjD
      refine ih (U.erase j) _ a' w' (by simpa using hs) (by rw [List.length_erase_of_mem hmem]; omega) ?_ ?_
      · intro i hi hd
        by_cases hij : j = i
        · subst hij
          simp [h1] at hd
        · rw [getD_set_ne false hij] at hd
          exact erase_mem (hun i hi hd) (Ne.symm hij)
      · have : (fun i => (listed.setIfInBounds j true).getD i false = true) = fun i => listed.getD i false = true ∨ i = j := by
          funext i
          apply propext
          by_cases hij : j = i
          · subst hij; simp [h1]
          · rw [getD_set_ne false hij]; simp [Ne.symm hij]
        rw [this]
        exact hI'

end Go.AE
