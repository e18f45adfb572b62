/-
  A statement whose order is open, second part: the run in whatever order.
-/
import Derived.Test.YtagjabnemfaknaaAe8
namespace Go.AE
set_option linter.unusedVariables false
set_option linter.unusedSimpArgs false

variable {e e' : Emb} {B : Nat} {R h : H} {w w' : World} {P : Program}

/-! ### An operation looks at its operands alone -/
theorem fillL_congr {fr fr' : Fr} : ∀ (ps : List (Nat × Nat × Operand)) (z : List Value), (∀ x ∈ ps.map (·.2.2), av fr' x = av fr x) → fillL fr' z ps = fillL fr z ps
  | [], z, _ => rfl
  | (off, size, x) :: ps, z, h => by
    simp only [fillL, h x (by simp)]
    split
    · exact fillL_congr ps _ fun y hy => h y (by simp [List.mem_map] at hy ⊢; exact .inr hy)
    · rfl

theorem bndO_congr {fr fr' : Fr} {y d : Nat} {x : Option Operand} (h : ∀ z ∈ x.toList, av fr' z = av fr z) : bndO fr' y d x = bndO fr y d x := by
  cases x with
  | none => rfl
  | some z => simp only [bndO, h z (by simp)]

theorem evOp_congr {F : Ora} {R : H} {op : AOp} {s s1 : St} {v : Value} {fr' : Fr} (hx : ∀ x ∈ opOperands op, av fr' x = av s.fr x) (h : evOp F R op s = some (v, s1)) :
    evOp F R op { s with fr := fr' } = some (v, { s1 with fr := fr' }) := by
  cases op <;> simp only [opOperands, List.mem_cons, List.not_mem_nil, or_false, forall_eq_or_imp, forall_eq] at hx
  case load n x =>
    cases n
    · simp only [evOp] at h ⊢
      rw [hx]
      split at h
      · obtain ⟨l, hl, h⟩ := Option.bind_eq_some_iff.1 h
        obtain ⟨v0, hv, heq⟩ := Option.map_eq_some_iff.1 h
        cases heq
        simp [hl, hv]
      · cases h
    · simp only [evOp] at h ⊢
      rw [hx]
      split at h
      · obtain ⟨l, hl, heq⟩ := Option.map_eq_some_iff.1 h
        cases heq
        simp [hl]
      · cases h
  case build z ps =>
    simp only [evOp] at h ⊢
    rw [fillL_congr ps z hx]
    obtain ⟨l, hl, heq⟩ := Option.map_eq_some_iff.1 h
    cases heq
    simp [hl]
  case bslice z n ps =>
    simp only [evOp] at h ⊢
    rw [fillL_congr ps z hx]
    obtain ⟨l, hl, heq⟩ := Option.map_eq_some_iff.1 h
    cases heq
    simp [hl, new, here]
  case make bytes z x =>
    simp only [evOp] at h ⊢
    rw [hx]
    split at h
    · split at h
      · rename_i hc
        cases h
        rw [if_pos hc]
        simp [new, here]
      · cases h
    · cases h
  case len st x =>
    cases st
    · simp only [evOp] at h ⊢
      rw [hx]
      split at h
      · cases h; rfl
      · cases h
    · simp only [evOp] at h ⊢
      rw [hx]
      split at h
      · cases h; rfl
      · cases h
  case mm b xs =>
    simp only [evOp] at h ⊢
    cases xs with
    | nil => cases h
    | cons x l =>
      simp only at h ⊢
      rw [hx x (by simp), show l.map (av fr') = l.map (av s.fr) from List.map_congr_left fun y hy => hx y (by simp [hy])]
      obtain ⟨l, hl, heq⟩ := Option.map_eq_some_iff.1 h
      cases heq
      simp [hl]
  case call f args =>
    obtain ⟨hf, hargs⟩ := hx
    simp only [evOp] at h ⊢
    rw [hf, show args.map (av fr') = args.map (av s.fr) from List.map_congr_left hargs]
    split at h
    · rename_i g heq
      obtain ⟨l, hl, heq⟩ := Option.map_eq_some_iff.1 h
      cases heq
      simp [hl]
    · cases h
  case slice n x lo hi =>
    obtain ⟨h1, h2⟩ := hx
    simp only [evOp] at h ⊢
    rw [h1]
    split at h
    · rename_i a len cap heq
      obtain ⟨H1, hH, h⟩ := Option.bind_eq_some_iff.1 h
      obtain ⟨L1, hL, heq⟩ := Option.map_eq_some_iff.1 h
      rw [bndO_congr (fun z hz => h2 z (by simp [hz])), hH]
      simp only [Option.bind_some]
      rw [bndO_congr (fun z hz => h2 z (by simp [hz])), hL]
      cases heq
      rfl
    · cases h
  case sliceA len n x lo hi =>
    obtain ⟨h1, h2⟩ := hx
    simp only [evOp] at h ⊢
    rw [h1]
    split at h
    · rename_i q heq
      obtain ⟨H1, hH, h⟩ := Option.bind_eq_some_iff.1 h
      obtain ⟨L1, hL, heq⟩ := Option.map_eq_some_iff.1 h
      rw [bndO_congr (fun z hz => h2 z (by simp [hz])), hH]
      simp only [Option.bind_some]
      rw [bndO_congr (fun z hz => h2 z (by simp [hz])), hL]
      cases heq
      rfl
    · cases h
  case store n x y =>
    simp only [evOp] at h ⊢
    rw [hx.1, hx.2]
    split at h
    · split at h
      · rename_i hc
        rw [if_pos hc]
        obtain ⟨l, hl, heq⟩ := Option.map_eq_some_iff.1 h
        cases heq
        simp [hl]
      · cases h
    · cases h
  case mov x => simp only [evOp] at h ⊢; rw [hx]; cases h; rfl
  case pick c a b =>
    simp only [evOp] at h ⊢; rw [hx.1, hx.2.1, hx.2.2]
    split at h
    · cases h; rfl
    · cases h
  case alloc z => simp only [evOp] at h ⊢; cases h; rfl
  case box x =>
    simp only [evOp] at h ⊢; rw [hx]
    split at h
    · cases h
    · cases h; rfl
  case nilck x =>
    simp only [evOp] at h ⊢; rw [hx]
    split at h
    · cases h; rfl
    · cases h
  case bin bop x y =>
    simp only [evOp] at h ⊢; rw [hx.1, hx.2]
    obtain ⟨l, hl, heq⟩ := Option.map_eq_some_iff.1 h
    cases heq; simp [hl]
  case eqb ne x y =>
    simp only [evOp] at h ⊢; rw [hx.1, hx.2]
    split at h
    · cases h; rfl
    · cases h
  case un uop x =>
    simp only [evOp] at h ⊢; rw [hx]
    obtain ⟨l, hl, heq⟩ := Option.map_eq_some_iff.1 h
    cases heq; simp [hl]
  case conv c x =>
    simp only [evOp] at h ⊢; rw [hx]
    obtain ⟨l, hl, heq⟩ := Option.map_eq_some_iff.1 h
    cases heq; simp [hl]
  case fieldA off x =>
    simp only [evOp] at h ⊢; rw [hx]
    split at h
    · cases h; rfl
    · cases h
  case idxA len size x i =>
    simp only [evOp] at h ⊢; rw [hx.1, hx.2]
    split at h
    · split at h
      · rename_i hc; rw [if_pos hc]; cases h; rfl
      · cases h
    · cases h
  case idxS size x i =>
    simp only [evOp] at h ⊢; rw [hx.1, hx.2]
    split at h
    · split at h
      · rename_i hc; rw [if_pos hc]; cases h; rfl
      · cases h
    · cases h
  case idxV len size agg x i =>
    simp only [evOp] at h ⊢; rw [hx.1, hx.2]
    split at h
    · split at h
      · rename_i hc
        rw [if_pos hc]
        cases agg
        · obtain ⟨l, hl, heq⟩ := Option.map_eq_some_iff.1 h
          cases heq; simp [hl]
        · cases h; rfl
      · cases h
    · cases h
  case fieldV off size agg x =>
    simp only [evOp] at h ⊢; rw [hx]
    split at h
    · split at h
      · rename_i hc
        rw [if_pos hc]
        cases agg
        · obtain ⟨l, hl, heq⟩ := Option.map_eq_some_iff.1 h
          cases heq; simp [hl]
        · cases h; rfl
      · cases h
    · cases h
  case extract i x =>
    simp only [evOp] at h ⊢; rw [hx]
    split at h
    · obtain ⟨l, hl, heq⟩ := Option.map_eq_some_iff.1 h
      cases heq; simp [hl]
    · cases h
  case cplx x y =>
    simp only [evOp] at h ⊢; rw [hx.1, hx.2]
    split at h
    · split at h
      · rename_i hc; rw [if_pos hc]; cases h; rfl
      · cases h
    · cases h
  case re x =>
    simp only [evOp] at h ⊢; rw [hx]
    split at h
    · cases h; rfl
    · cases h
  case im x =>
    simp only [evOp] at h ⊢; rw [hx]
    split at h
    · cases h; rfl
    · cases h
  case append => simp only [evOp] at h; cases h
  case copy => simp only [evOp] at h; cases h

/-- What touches no memory gives the same whatever the blocks are. -/
theorem evOp_kind0 {F : Ora} {R : H} {op : AOp} (h0 : kindO op = 0) {s s1 : St} {v : Value} (h : evOp F R op s = some (v, s1)) :
    s1 = s ∧ ∀ (F' : Ora) (h' : H) (pw sw : Nat), evOp F' R op { s with h := h', pw := pw, sw := sw } = some (v, { s with h := h', pw := pw, sw := sw }) := by
  cases op <;> simp only [kindO] at h0 <;> try (exact absurd h0 (by decide))
  case len st x =>
    cases st
    · simp only [evOp] at h ⊢
      split at h
      · cases h; exact ⟨rfl, fun _ _ _ _ => rfl⟩
      · cases h
    · simp only [evOp] at h ⊢
      split at h
      · cases h; exact ⟨rfl, fun _ _ _ _ => rfl⟩
      · cases h
  case mm b xs =>
    simp only [evOp] at h ⊢
    cases xs with
    | nil => cases h
    | cons x l =>
      simp only at h ⊢
      obtain ⟨l, hl, heq⟩ := Option.map_eq_some_iff.1 h
      cases heq; exact ⟨rfl, fun _ _ _ _ => by simp [hl]⟩
  case mov x => simp only [evOp] at h ⊢; cases h; exact ⟨rfl, fun _ _ _ _ => rfl⟩
  case pick c a b =>
    simp only [evOp] at h ⊢
    split at h
    · cases h; exact ⟨rfl, fun _ _ _ _ => rfl⟩
    · cases h
  case build z ps =>
    simp only [evOp] at h ⊢
    obtain ⟨l, hl, heq⟩ := Option.map_eq_some_iff.1 h
    cases heq; exact ⟨rfl, fun _ _ _ _ => by simp [hl]⟩
  case nilck x =>
    simp only [evOp] at h ⊢
    split at h
    · cases h; exact ⟨rfl, fun _ _ _ _ => rfl⟩
    · cases h
  case bin bop x y =>
    simp only [evOp] at h ⊢
    obtain ⟨l, hl, heq⟩ := Option.map_eq_some_iff.1 h
    cases heq; exact ⟨rfl, fun _ _ _ _ => by simp [hl]⟩
  case eqb ne x y =>
    simp only [evOp] at h ⊢
    split at h
    · cases h; exact ⟨rfl, fun _ _ _ _ => rfl⟩
    · cases h
  case un uop x =>
    simp only [evOp] at h ⊢
    obtain ⟨l, hl, heq⟩ := Option.map_eq_some_iff.1 h
    cases heq; exact ⟨rfl, fun _ _ _ _ => by simp [hl]⟩
  case conv c x =>
    simp only [evOp] at h ⊢
    obtain ⟨l, hl, heq⟩ := Option.map_eq_some_iff.1 h
    cases heq; exact ⟨rfl, fun _ _ _ _ => by simp [hl]⟩
  case fieldA off x =>
    simp only [evOp] at h ⊢
    split at h
    · cases h; exact ⟨rfl, fun _ _ _ _ => rfl⟩
    · cases h
  case idxA len size x i =>
    simp only [evOp] at h ⊢
    split at h
    · split at h
      · rename_i hc; cases h; exact ⟨rfl, fun _ _ _ _ => by rw [if_pos hc]⟩
      · cases h
    · cases h
  case idxS size x i =>
    simp only [evOp] at h ⊢
    split at h
    · split at h
      · rename_i hc; cases h; exact ⟨rfl, fun _ _ _ _ => by rw [if_pos hc]⟩
      · cases h
    · cases h
  case idxV len size agg x i =>
    simp only [evOp] at h ⊢
    split at h
    · split at h
      · rename_i hc
        cases agg
        · obtain ⟨l, hl, heq⟩ := Option.map_eq_some_iff.1 h
          cases heq; exact ⟨rfl, fun _ _ _ _ => by rw [if_pos hc]; simp [hl]⟩
        · cases h; exact ⟨rfl, fun _ _ _ _ => by rw [if_pos hc]; rfl⟩
      · cases h
    · cases h
  case fieldV off size agg x =>
    simp only [evOp] at h ⊢
    split at h
    · split at h
      · rename_i hc
        cases agg
        · obtain ⟨l, hl, heq⟩ := Option.map_eq_some_iff.1 h
          cases heq; exact ⟨rfl, fun _ _ _ _ => by rw [if_pos hc]; simp [hl]⟩
        · cases h; exact ⟨rfl, fun _ _ _ _ => by rw [if_pos hc]; rfl⟩
      · cases h
    · cases h
  case extract i x =>
    simp only [evOp] at h ⊢
    split at h
    · obtain ⟨l, hl, heq⟩ := Option.map_eq_some_iff.1 h
      cases heq; exact ⟨rfl, fun _ _ _ _ => by simp [hl]⟩
    · cases h
  case cplx x y =>
    simp only [evOp] at h ⊢
    split at h
    · split at h
      · rename_i hc; cases h; exact ⟨rfl, fun _ _ _ _ => by rw [if_pos hc]⟩
      · cases h
    · cases h
  case re x =>
    simp only [evOp] at h ⊢
    split at h
    · cases h; exact ⟨rfl, fun _ _ _ _ => rfl⟩
    · cases h
  case im x =>
    simp only [evOp] at h ⊢
    split at h
    · cases h; exact ⟨rfl, fun _ _ _ _ => rfl⟩
    · cases h
  case slice n x lo hi =>
    simp only [evOp] at h ⊢
    split at h
    · obtain ⟨H1, hH, h⟩ := Option.bind_eq_some_iff.1 h
      obtain ⟨L1, hL, heq⟩ := Option.map_eq_some_iff.1 h
      cases heq
      exact ⟨rfl, fun _ _ _ _ => by simp [hH, hL]⟩
    · cases h
  case sliceA len n x lo hi =>
    simp only [evOp] at h ⊢
    split at h
    · obtain ⟨H1, hH, h⟩ := Option.bind_eq_some_iff.1 h
      obtain ⟨L1, hL, heq⟩ := Option.map_eq_some_iff.1 h
      cases heq
      exact ⟨rfl, fun _ _ _ _ => by simp [hH, hL]⟩
    · cases h

/-- A call's own blocks are cut off where it hands back no address and has stored none. -/
def TruncF (F : Ora) : Prop := ∀ f as h v h' pw sw, F f as h = some (v, h', pw, sw) → vfree v = true → h.length ≤ pw → h'.length = h.length

/-- What only looks into memory: the blocks stay, and a quiet call is the call. -/
theorem evOp_kind1 {F : Ora} (hL : LvsF F) (hT : TruncF F) {R : H} {op : AOp} (h0 : kindO op = 1) {s s1 : St} {v : Value} (h : evOp (quietF F) R op s = some (v, s1)) :
    s1.h = s.h ∧ evOp F R op s = some (v, s1) := by
  cases op <;> simp only [kindO] at h0 <;> try (exact absurd h0 (by decide))
  case load n x =>
    cases n
    · simp only [evOp] at h ⊢
      split at h
      · obtain ⟨l, hl, h⟩ := Option.bind_eq_some_iff.1 h
        obtain ⟨v0, hv, heq⟩ := Option.map_eq_some_iff.1 h
        cases heq; exact ⟨rfl, by simp [hl, hv]⟩
      · cases h
    · simp only [evOp] at h ⊢
      split at h
      · obtain ⟨l, hl, heq⟩ := Option.map_eq_some_iff.1 h
        cases heq; exact ⟨rfl, by simp [hl]⟩
      · cases h
  case call f args =>
    simp only [evOp] at h ⊢
    split at h
    · obtain ⟨⟨v0, h', pw, sw⟩, hq, heq⟩ := Option.map_eq_some_iff.1 h
      cases heq
      unfold quietF at hq
      obtain ⟨⟨v1, h1, pw1, sw1⟩, hf, hq⟩ := Option.bind_eq_some_iff.1 hq
      simp only at hq
      split at hq
      · rename_i hc
        cases hq
        have hlen := hT _ _ _ _ _ _ _ hf hc.2.2 hc.1
        have htake := quiet_same hL hf hc.2.1
        have : h1 = s.h := by rw [← htake, ← hlen, List.take_length]
        subst this
        exact ⟨rfl, by simp [hf]⟩
      · cases hq
    · cases h

/-! ### The last of several -/
theorem last_of (key : Nat → Nat) (p : Nat → Prop) : ∀ n, (∃ i, i < n ∧ p i) → ∃ i, i < n ∧ p i ∧ ∀ i', i' < n → p i' → key i' ≤ key i := by
  intro n
  induction n with
  | zero => rintro ⟨i, hi, _⟩; omega
  | succ n ih =>
    rintro ⟨i, hi, hp⟩
    by_cases hn : ∃ i, i < n ∧ p i
    · obtain ⟨k, hk, hpk, hmax⟩ := ih hn
      by_cases hpn : p n
      · by_cases hle : key n ≤ key k
        · exact ⟨k, by omega, hpk, fun i' hi' hp' => by
            by_cases hh : i' = n
            · subst hh; exact hle
            · exact hmax i' (by omega) hp'⟩
        · exact ⟨n, by omega, hpn, fun i' hi' hp' => by
            by_cases hh : i' = n
            · subst hh; exact Nat.le_refl _
            · have := hmax i' (by omega) hp'; omega⟩
      · exact ⟨k, by omega, hpk, fun i' hi' hp' => by
          by_cases hh : i' = n
          · subst hh; exact absurd hp' hpn
          · exact hmax i' (by omega) hp'⟩
    · have hin : i = n := by
        by_cases hh : i = n
        · exact hh
        · exact absurd ⟨i, by omega, hp⟩ hn
      subst hin
      exact ⟨i, by omega, hp, fun i' hi' hp' => by
        by_cases hh : i' = i
        · subst hh; exact Nat.le_refl _
        · exact absurd ⟨i', by omega, hp'⟩ hn⟩

theorem FS.agree {dst : Nat → Option Nat} {key : Nat → Nat} {S S' : Nat → Prop} {val : Nat → Value} {fr0 fr fr' : Fr} (h1 : FS dst key S val fr0 fr) (h2 : FS dst key S' val fr0 fr') {n : Nat} (hb : ∀ i, S i → i < n) {t : Nat}
    (hw : ∀ i, dst i = some t → (S i ↔ S' i)) : fr t = fr' t := by
  by_cases hx : ∃ i, i < n ∧ (S i ∧ dst i = some t)
  · obtain ⟨i, hi, ⟨hs, hd⟩, hmax⟩ := last_of key (fun i => S i ∧ dst i = some t) n hx
    rw [(h1 t).1 i hs hd fun i' hs' hd' => hmax i' (hb _ hs') ⟨hs', hd'⟩]
    rw [(h2 t).1 i ((hw i hd).1 hs) hd fun i' hs' hd' => hmax i' (hb _ ((hw i' hd').2 hs')) ⟨(hw i' hd').2 hs', hd'⟩]
  · rw [(h1 t).2 fun i hs hd => hx ⟨i, hb _ hs, hs, hd⟩]
    rw [(h2 t).2 fun i hs hd => hx ⟨i, hb _ ((hw i hd).2 hs), (hw i hd).2 hs, hd⟩]
theorem HS.agree {kk : Nat → Prop} {key : Nat → Nat} {S S' : Nat → Prop} {nx : Nat → St} {h0 h h' : H} (h1 : HS kk key S nx h0 h) (h2 : HS kk key S' nx h0 h') {n : Nat} (hb : ∀ i, S i → i < n)
    (hw : ∀ i, kk i → (S i ↔ S' i)) : h = h' := by
  by_cases hx : ∃ i, i < n ∧ (S i ∧ kk i)
  · obtain ⟨i, hi, ⟨hs, hd⟩, hmax⟩ := last_of key (fun i => S i ∧ kk i) n hx
    rw [h1.1 i hs hd fun i' hs' hd' => hmax i' (hb _ hs') ⟨hs', hd'⟩]
    rw [h2.1 i ((hw i hd).1 hs) hd fun i' hs' hd' => hmax i' (hb _ ((hw i' hd').2 hs')) ⟨(hw i' hd').2 hs', hd'⟩]
  · rw [h1.2 fun i hs hd => hx ⟨i, hb _ hs, hs, hd⟩]
    rw [h2.2 fun i hs hd => hx ⟨i, hb _ ((hw i hd).2 hs), (hw i hd).2 hs, hd⟩]

end Go.AE
