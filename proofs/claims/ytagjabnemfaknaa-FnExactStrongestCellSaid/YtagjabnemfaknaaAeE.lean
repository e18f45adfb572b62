/-
  The evaluator without fuel: its equations, and that what it gives is what a call in the program comes to.
-/
import Derived.Test.YtagjabnemfaknaaAeD
namespace Go.AE
set_option linter.unusedVariables false
set_option linter.unusedSimpArgs false

abbrev CodeF := ACode → St → Option (X × St)
def LeC (C C' : CodeF) : Prop := ∀ c s r, C c s = some r → C' c s = some r
def LeF (F F' : Ora) : Prop := ∀ f as h r, F f as h = some r → F' f as h = some r

theorem evOp_call {F : Ora} {R : H} {f : Operand} {args : List Operand} {s : St} : evOp F R (.call f args) s = (calleeOf (av s.fr f)).bind fun g => (F g (args.map (av s.fr)) s.h).map fun (v, h, pw, sw) => (v, { s with h, pw := min s.pw pw, sw := min s.sw sw }) := by
  simp only [evOp]
  cases calleeOf (av s.fr f) <;> rfl

theorem evOp_other {F F' : Ora} {R : H} {op : AOp} {s : St} (h : ∀ f args, op ≠ .call f args) : evOp F R op s = evOp F' R op s := by
  cases op <;> try rfl
  case load n x => cases n <;> rfl
  case len b x => cases b <;> rfl
  case call f args => exact absurd rfl (h f args)

theorem evOp_mono {F F' : Ora} (hF : LeF F F') {R : H} {op : AOp} {s : St} {r : Value × St} (h : evOp F R op s = some r) : evOp F' R op s = some r := by
  by_cases hc : ∃ f args, op = .call f args
  · obtain ⟨f, args, rfl⟩ := hc
    rw [evOp_call] at h ⊢
    obtain ⟨g, hg, h⟩ := Option.bind_eq_some_iff.1 h
    obtain ⟨x, hx, h⟩ := Option.map_eq_some_iff.1 h
    rw [hg, Option.bind_some, hF _ _ _ _ hx, ← h]; rfl
  · rw [← h]; exact evOp_other fun f args e => hc ⟨f, args, e⟩

theorem evO_mono {F F' : Ora} (hF : LeF F F') {R : H} : ∀ (l : List AOper) {s s' : St}, evO F R l s = some s' → evO F' R l s = some s'
  | [], s, s', h => h
  | o :: l, s, s', h => by
    simp only [evO] at h ⊢
    split at h
    · rename_i hg
      rw [if_pos hg]
      obtain ⟨⟨v, s1⟩, h1, h2⟩ := Option.bind_eq_some_iff.1 h
      rw [evOp_mono hF h1, Option.bind_some]
      exact evO_mono hF l h2
    · rename_i hg
      rw [if_neg hg]
      exact evO_mono hF l h

theorem quietF_mono {F F' : Ora} (hF : LeF F F') : LeF (quietF F) (quietF F') := by
  intro f as h r hq
  unfold quietF at hq ⊢
  obtain ⟨x, hx, hq⟩ := Option.bind_eq_some_iff.1 hq
  rw [hF _ _ _ _ hx]; exact hq

theorem stC_mono {C C' : CodeF} {F F' : Ora} (hC : LeC C C') (hF : LeF F F') (R : H) : LeC (stC C F R) (stC C' F' R) := by
  intro c s r h
  cases c <;> simp only [stC] at h ⊢
  case skip => exact h
  case ops l =>
    obtain ⟨s1, h1, h2⟩ := Option.map_eq_some_iff.1 h
    rw [evO_mono hF l h1]; simp [h2]
  case draw a q e =>
    obtain ⟨s0, h0, h⟩ := Option.bind_eq_some_iff.1 h
    obtain ⟨s1, h1, h⟩ := Option.bind_eq_some_iff.1 h
    obtain ⟨s2, h2, h⟩ := Option.map_eq_some_iff.1 h
    rw [evO_mono hF a h0, Option.bind_some, evO_mono (quietF_mono hF) q h1, Option.bind_some, evO_mono (quietF_mono hF) e h2]; simp [h]
  case seq a b =>
    obtain ⟨⟨x, s1⟩, h1, h⟩ := Option.bind_eq_some_iff.1 h
    rw [hC _ _ _ h1, Option.bind_some]
    cases x <;> simp only at h ⊢
    · exact hC _ _ _ h
    · exact h
    · exact h
  case cond c a b =>
    split at h
    · exact hC _ _ _ h
    · cases h
  case block id c =>
    obtain ⟨x, h1, h⟩ := Option.map_eq_some_iff.1 h
    rw [hC _ _ _ h1]; simp [h]
  case loop c =>
    obtain ⟨⟨x, s1⟩, h1, h⟩ := Option.bind_eq_some_iff.1 h
    rw [hC _ _ _ h1, Option.bind_some]
    cases x <;> simp only at h ⊢
    · exact hC _ _ _ h
    · exact h
    · exact h
  case exit => exact h
  case ret => exact h

theorem stF_mono {C C' : CodeF} (hC : LeC C C') (tab : Nat → Option AFn) (R : H) : LeF (stF tab C R) (stF tab C' R) := by
  intro f as h r hf
  unfold stF at hf ⊢
  split at hf
  · exact hf
  · split at hf
    · rename_i ha
      rw [if_pos ha]
      obtain ⟨x, hx, hf⟩ := Option.bind_eq_some_iff.1 hf
      rw [hC _ _ _ hx, Option.bind_some]; exact hf
    · cases hf
  · cases hf

theorem ev_step (tab : Nat → Option AFn) (R : H) : ∀ n, LeC (ev tab R n).1 (ev tab R (n + 1)).1 ∧ LeF (ev tab R n).2 (ev tab R (n + 1)).2
  | 0 => ⟨fun _ _ _ h => (by cases h), fun _ _ _ _ h => (by cases h)⟩
  | n + 1 => ⟨stC_mono (ev_step tab R n).1 (ev_step tab R n).2 R, stF_mono (ev_step tab R n).1 tab R⟩
theorem ev_le (tab : Nat → Option AFn) (R : H) {n m : Nat} (h : n ≤ m) : LeC (ev tab R n).1 (ev tab R m).1 ∧ LeF (ev tab R n).2 (ev tab R m).2 := by
  induction h with
  | refl => exact ⟨fun _ _ _ h => h, fun _ _ _ _ h => h⟩
  | step _ ih => exact ⟨fun c s r h => (ev_step tab R _).1 _ _ _ (ih.1 _ _ _ h), fun f as h r hh => (ev_step tab R _).2 _ _ _ _ (ih.2 _ _ _ _ hh)⟩

open Classical in
/-- What there is at some fuel. -/
noncomputable def lim {α : Type} (f : Nat → Option α) : Option α := if h : ∃ n r, f n = some r then some (Classical.choose (Classical.choose_spec h)) else none
theorem lim_iff {α : Type} {f : Nat → Option α} (hm : ∀ n m r, n ≤ m → f n = some r → f m = some r) (r : α) : lim f = some r ↔ ∃ n, f n = some r := by
  unfold lim
  split
  · rename_i h
    have hs := Classical.choose_spec (Classical.choose_spec h)
    constructor
    · intro he; cases he; exact ⟨_, hs⟩
    · rintro ⟨n, hn⟩
      have h1 := hm _ (max n (Classical.choose h)) _ (Nat.le_max_right _ _) hs
      have h2 := hm _ (max n (Classical.choose h)) _ (Nat.le_max_left _ _) hn
      rw [h1] at h2; exact h2
  · rename_i h
    constructor
    · intro he; cases he
    · rintro ⟨n, hn⟩; exact absurd ⟨n, r, hn⟩ h

noncomputable def EC (tab : Nat → Option AFn) (R : H) : CodeF := fun c s => lim fun n => (ev tab R n).1 c s
noncomputable def EF (tab : Nat → Option AFn) (R : H) : Ora := fun f as h => lim fun n => (ev tab R n).2 f as h

variable {tab : Nat → Option AFn} {R : H}
theorem EC_iff {c : ACode} {s : St} {r : X × St} : EC tab R c s = some r ↔ ∃ n, (ev tab R n).1 c s = some r := lim_iff (fun n m r h hn => (ev_le tab R h).1 _ _ _ hn) r
theorem EF_iff {f : Nat} {as : List Value} {h : H} {r : Value × H × Nat × Nat} : EF tab R f as h = some r ↔ ∃ n, (ev tab R n).2 f as h = some r := lim_iff (fun n m r h hn => (ev_le tab R h).2 _ _ _ _ hn) r
theorem EC_of (n : Nat) : LeC (ev tab R n).1 (EC tab R) := fun _ _ _ h => EC_iff.2 ⟨n, h⟩
theorem EF_of (n : Nat) : LeF (ev tab R n).2 (EF tab R) := fun _ _ _ _ h => EF_iff.2 ⟨n, h⟩

theorem evOp_cont {op : AOp} {s : St} {r : Value × St} (h : evOp (EF tab R) R op s = some r) : ∃ n, evOp (ev tab R n).2 R op s = some r := by
  by_cases hc : ∃ f args, op = .call f args
  · obtain ⟨f, args, rfl⟩ := hc
    rw [evOp_call] at h
    obtain ⟨g, hg, h⟩ := Option.bind_eq_some_iff.1 h
    obtain ⟨x, hx, h⟩ := Option.map_eq_some_iff.1 h
    obtain ⟨n, hn⟩ := EF_iff.1 hx
    refine ⟨n, ?_⟩
    rw [evOp_call, hg, Option.bind_some, hn, ← h]; rfl
  · exact ⟨0, by rw [← h]; exact evOp_other fun f args e => hc ⟨f, args, e⟩⟩
theorem evO_cont : ∀ (l : List AOper) {s s' : St}, evO (EF tab R) R l s = some s' → ∃ n, evO (ev tab R n).2 R l s = some s'
  | [], s, s', h => ⟨0, h⟩
  | o :: l, s, s', h => by
    simp only [evO] at h ⊢
    split at h
    · rename_i hg
      obtain ⟨⟨v, s1⟩, h1, h2⟩ := Option.bind_eq_some_iff.1 h
      obtain ⟨n1, hn1⟩ := evOp_cont h1
      obtain ⟨n2, hn2⟩ := evO_cont l h2
      refine ⟨max n1 n2, ?_⟩
      rw [if_pos hg, evOp_mono (ev_le tab R (Nat.le_max_left n1 n2)).2 hn1, Option.bind_some]
      exact evO_mono (ev_le tab R (Nat.le_max_right n1 n2)).2 l hn2
    · rename_i hg
      obtain ⟨n, hn⟩ := evO_cont l h
      exact ⟨n, by rw [if_neg hg]; exact hn⟩
theorem evOp_contq {op : AOp} {s : St} {r : Value × St} (h : evOp (quietF (EF tab R)) R op s = some r) : ∃ n, evOp (quietF (ev tab R n).2) R op s = some r := by
  by_cases hc : ∃ f args, op = .call f args
  · obtain ⟨f, args, rfl⟩ := hc
    rw [evOp_call] at h
    obtain ⟨g, hg, h⟩ := Option.bind_eq_some_iff.1 h
    obtain ⟨x, hx, h⟩ := Option.map_eq_some_iff.1 h
    unfold quietF at hx
    obtain ⟨y, hy, hx⟩ := Option.bind_eq_some_iff.1 hx
    obtain ⟨n, hn⟩ := EF_iff.1 hy
    refine ⟨n, ?_⟩
    rw [evOp_call, hg, Option.bind_some]
    have : quietF (ev tab R n).2 g (args.map (av s.fr)) s.h = some x := by unfold quietF; rw [hn, Option.bind_some]; exact hx
    rw [this, ← h]; rfl
  · exact ⟨0, by rw [← h]; exact evOp_other fun f args e => hc ⟨f, args, e⟩⟩
theorem evO_contq : ∀ (l : List AOper) {s s' : St}, evO (quietF (EF tab R)) R l s = some s' → ∃ n, evO (quietF (ev tab R n).2) R l s = some s'
  | [], s, s', h => ⟨0, h⟩
  | o :: l, s, s', h => by
    simp only [evO] at h ⊢
    split at h
    · rename_i hg
      obtain ⟨⟨v, s1⟩, h1, h2⟩ := Option.bind_eq_some_iff.1 h
      obtain ⟨n1, hn1⟩ := evOp_contq h1
      obtain ⟨n2, hn2⟩ := evO_contq l h2
      refine ⟨max n1 n2, ?_⟩
      rw [if_pos hg, evOp_mono (quietF_mono (ev_le tab R (Nat.le_max_left n1 n2)).2) hn1, Option.bind_some]
      exact evO_mono (quietF_mono (ev_le tab R (Nat.le_max_right n1 n2)).2) l hn2
    · rename_i hg
      obtain ⟨n, hn⟩ := evO_contq l h
      exact ⟨n, by rw [if_neg hg]; exact hn⟩

theorem stC_cont {c : ACode} {s : St} {r : X × St} (h : stC (EC tab R) (EF tab R) R c s = some r) : ∃ n, stC (ev tab R n).1 (ev tab R n).2 R c s = some r := by
  cases c <;> simp only [stC] at h ⊢
  case skip => exact ⟨0, h⟩
  case ops l =>
    obtain ⟨s1, h1, h2⟩ := Option.map_eq_some_iff.1 h
    obtain ⟨n, hn⟩ := evO_cont l h1
    exact ⟨n, by rw [hn]; simp [h2]⟩
  case draw a q e =>
    obtain ⟨s0, h0, h⟩ := Option.bind_eq_some_iff.1 h
    obtain ⟨s1, h1, h⟩ := Option.bind_eq_some_iff.1 h
    obtain ⟨s2, h2, h⟩ := Option.map_eq_some_iff.1 h
    obtain ⟨n0, hn0⟩ := evO_cont a h0
    obtain ⟨n1, hn1⟩ := evO_contq q h1
    obtain ⟨n2, hn2⟩ := evO_contq e h2
    refine ⟨max n0 (max n1 n2), ?_⟩
    rw [evO_mono (ev_le tab R (by omega : n0 ≤ _)).2 a hn0, Option.bind_some, evO_mono (quietF_mono (ev_le tab R (by omega : n1 ≤ _)).2) q hn1, Option.bind_some, evO_mono (quietF_mono (ev_le tab R (by omega : n2 ≤ _)).2) e hn2]
    simp [h]
  case seq a b =>
    obtain ⟨⟨x, s1⟩, h1, h⟩ := Option.bind_eq_some_iff.1 h
    obtain ⟨n, hn⟩ := EC_iff.1 h1
    cases x <;> simp only at h
    · obtain ⟨m, hm⟩ := EC_iff.1 h
      refine ⟨max n m, ?_⟩
      rw [(ev_le tab R (Nat.le_max_left n m)).1 _ _ _ hn, Option.bind_some]
      exact (ev_le tab R (Nat.le_max_right n m)).1 _ _ _ hm
    · exact ⟨n, by rw [hn]; exact h⟩
    · exact ⟨n, by rw [hn]; exact h⟩
  case cond c a b =>
    split at h
    · obtain ⟨n, hn⟩ := EC_iff.1 h
      exact ⟨n, hn⟩
    · cases h
  case block id c =>
    obtain ⟨x, h1, h⟩ := Option.map_eq_some_iff.1 h
    obtain ⟨n, hn⟩ := EC_iff.1 h1
    exact ⟨n, by rw [hn]; simp [h]⟩
  case loop c =>
    obtain ⟨⟨x, s1⟩, h1, h⟩ := Option.bind_eq_some_iff.1 h
    obtain ⟨n, hn⟩ := EC_iff.1 h1
    cases x <;> simp only at h
    · obtain ⟨m, hm⟩ := EC_iff.1 h
      refine ⟨max n m, ?_⟩
      rw [(ev_le tab R (Nat.le_max_left n m)).1 _ _ _ hn, Option.bind_some]
      exact (ev_le tab R (Nat.le_max_right n m)).1 _ _ _ hm
    · exact ⟨n, by rw [hn]; exact h⟩
    · exact ⟨n, by rw [hn]; exact h⟩
  case exit => exact ⟨0, h⟩
  case ret => exact ⟨0, h⟩

theorem EC_eq (c : ACode) (s : St) : EC tab R c s = stC (EC tab R) (EF tab R) R c s := by
  apply Option.ext
  intro r
  constructor
  · intro h
    obtain ⟨n, hn⟩ := EC_iff.1 h
    cases n with
    | zero => cases hn
    | succ n => exact stC_mono (EC_of n) (EF_of n) R _ _ _ hn
  · intro h
    obtain ⟨n, hn⟩ := stC_cont h
    exact EC_iff.2 ⟨n + 1, hn⟩
theorem EF_eq (f : Nat) (as : List Value) (h : H) : EF tab R f as h = stF tab (EC tab R) R f as h := by
  apply Option.ext
  intro r
  constructor
  · intro hr
    obtain ⟨n, hn⟩ := EF_iff.1 hr
    cases n with
    | zero => cases hn
    | succ n => exact stF_mono (EC_of n) tab R _ _ _ _ hn
  · intro hr
    unfold stF at hr
    split at hr
    · rename_i x ht
      exact EF_iff.2 ⟨1, by simp only [ev, stF, ht]; exact hr⟩
    · rename_i np nt res body ht
      split at hr
      · rename_i ha
        obtain ⟨x, hx, hr⟩ := Option.bind_eq_some_iff.1 hr
        obtain ⟨n, hn⟩ := EC_iff.1 hx
        refine EF_iff.2 ⟨n + 1, ?_⟩
        simp only [ev, stF, ht, if_pos ha]
        rw [hn, Option.bind_some]; exact hr
      · cases hr
    · cases hr

/-- What it gives of a function is what a call of it comes to. -/
theorem EF_sound {P : Program} (hm : P.follows .mixedOrders = true) (B : Nat) (R : H) : SoundF P B R (EF (trFn P) R) := by
  intro f as h v h' pw sw hf
  obtain ⟨n, hn⟩ := EF_iff.1 hf
  exact (sound hm B R n).2.2.1 f as h v h' pw sw hn

end Go.AE
