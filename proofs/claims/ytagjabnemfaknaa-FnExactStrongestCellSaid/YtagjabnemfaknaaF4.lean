/-
  An argument that is a map of echoes.
-/
import Derived.Test.YtagjabnemfaknaaF3
namespace Go.Proofs.Ytagjabnemfaknaa
open Go Go.AE
set_option maxRecDepth 100000
set_option linter.unusedSimpArgs false
theorem Try.own : ownKnob Try.prog.godebug = none := by kernel_rfl
theorem Try.laidOut : laidOutB Try.prog = true := by kernel_rfl
theorem Try.mixed : Try.prog.follows .mixedOrders = true := by kernel_rfl
theorem under30 : Try.prog.underlying 30 = some (.slice 68) := by kernel_rfl
theorem flatS68 : flatS Try.prog Try.prog.depth 68 = some [.i .i16, .i .i16, .f .f32, .i .i64] := by kernel_rfl
theorem flatT30 : flatT Try.prog 30 = none := by kernel_rfl
theorem flat_get {α : Type} {s : List α} {m : Nat} (hm : s.length = m) : ∀ (n i k : Nat), i < n → k < m → (List.replicate n s).flatten[i * m + k]? = s[k]?
  | 0, i, k, hi, _ => by omega
  | n + 1, i, k, hi, hk => by
    rw [List.replicate_succ, List.flatten_cons]
    by_cases h0 : i = 0
    · subst h0
      rw [Nat.zero_mul, Nat.zero_add, List.getElem?_append_left (by omega)]
    · obtain ⟨j, rfl⟩ : ∃ j, i = j + 1 := ⟨i - 1, by omega⟩
      rw [List.getElem?_append_right (by rw [hm, Nat.add_mul]; omega), hm]
      have : (j + 1) * m + k - m = j * m + k := by rw [Nat.add_mul]; omega
      rw [this]
      exact flat_get hm n j k (by omega) hk
def intAt (l : List Value) (i : Nat) : Int := match l[i]? with
  | some (.int _ b) => b
  | _ => 0
def floAt (l : List Value) (i : Nat) : Nat := match l[i]? with
  | some (.float _ b) => b
  | _ => 0
theorem ce_of {L : List Value} {n cap : Nat} (hn : n ≤ cap) (h : F2 OkSc L (List.replicate cap [Sc.i .i16, .i .i16, .f .f32, .i .i64]).flatten) :
    Ce L n (fun i => intAt L (i * 4)) (fun i => intAt L (i * 4 + 1)) (fun i => floAt L (i * 4 + 2)) (fun i => intAt L (i * 4 + 3)) := by
  have hl : L.length = cap * 4 := by rw [h.length]; simp
  have g := fun (i k : Nat) (hi : i < n) (hk : k < 4) => flat_get (s := [Sc.i .i16, .i .i16, .f .f32, .i .i64]) (m := 4) rfl cap i k (by omega) hk
  have k0 : ∀ i, i < n → ∃ x, L[i * 4]? = some (.int .i16 x) ∧ IntKind.i16.has x := fun i hi => by
    obtain ⟨v, hv, x, rfl, hx⟩ := h.get (g i 0 hi (by decide))
    exact ⟨x, hv, hx⟩
  have k1 : ∀ i, i < n → ∃ x, L[i * 4 + 1]? = some (.int .i16 x) ∧ IntKind.i16.has x := fun i hi => by
    obtain ⟨v, hv, x, rfl, hx⟩ := h.get (g i 1 hi (by decide))
    exact ⟨x, hv, hx⟩
  have k2 : ∀ i, i < n → ∃ x, L[i * 4 + 2]? = some (.float .f32 x) ∧ cn .f32 x = x ∧ x < 4294967296 := fun i hi => by
    obtain ⟨v, hv, x, rfl, hx⟩ := h.get (g i 2 hi (by decide))
    exact ⟨x, hv, hx⟩
  have k3 : ∀ i, i < n → ∃ x, L[i * 4 + 3]? = some (.int .i64 x) ∧ IntKind.i64.has x := fun i hi => by
    obtain ⟨v, hv, x, rfl, hx⟩ := h.get (g i 3 hi (by decide))
    exact ⟨x, hv, hx⟩
  refine ⟨by omega, fun i hi => ?_, fun i hi => ?_, fun i hi => ?_, fun i hi => ?_, fun i hi => ?_, fun i hi => ?_, fun i hi => ?_⟩
  · obtain ⟨x, hx, _⟩ := k0 i hi
    simp only [intAt, hx]
  · obtain ⟨x, hx, _⟩ := k1 i hi
    simp only [intAt, hx]
  · obtain ⟨x, hx, _⟩ := k2 i hi
    simp only [floAt, hx]
  · obtain ⟨x, hx, _⟩ := k3 i hi
    simp only [intAt, hx]
  · obtain ⟨x, hx, hh⟩ := k0 i hi
    simp only [intAt, hx]; exact hh
  · obtain ⟨x, hx, hh⟩ := k1 i hi
    simp only [intAt, hx]; exact hh
  · obtain ⟨x, hx, h1, h2⟩ := k2 i hi
    simp only [floAt, hx]; exact ⟨h2, h1⟩
theorem typed1 {P : Program} {R : H} {t : TypeId} {xs : List Value} (h : TypedAllS P 0 R [t] xs) : ∃ r v, R = [r] ∧ xs = [v] ∧ TypedOne P 0 r t v := by
  cases R with
  | nil => cases xs <;> exact h.elim
  | cons r rs => cases xs with
    | nil => exact h.elim
    | cons v vs =>
      obtain ⟨h1, h2⟩ := h
      cases rs <;> cases vs <;> first | exact h2.elim | exact ⟨r, v, rfl, rfl, h1⟩
theorem typed2 {P : Program} {R : H} {t u : TypeId} {xs : List Value} (h : TypedAllS P 0 R [t, u] xs) : ∃ r v r' v', R = [r, r'] ∧ xs = [v, v'] ∧ TypedOne P 0 r t v ∧ TypedOne P 1 r' u v' := by
  cases R with
  | nil => cases xs <;> exact h.elim
  | cons r rs => cases xs with
    | nil => exact h.elim
    | cons v vs =>
      obtain ⟨h1, h2⟩ := h
      cases rs with
      | nil => cases vs <;> exact h2.elim
      | cons r' rs => cases vs with
        | nil => exact h2.elim
        | cons v' vs =>
          obtain ⟨h3, h4⟩ := h2
          cases rs <;> cases vs <;> first | exact h4.elim | exact ⟨r, v, r', v', rfl, rfl, h1, h3⟩
/-- What an argument that is a map is. -/
theorem map_of {r : List Value} {v : Value} {j : Nat} (h : TypedOne Try.prog j r 30 v) : ∃ oa n c a b p s, v = .slice oa n c ∧ n ≤ 9223372036854775807 ∧ (0 < n → oa = some ⟨j, 0, some 0⟩) ∧ Ce r n a b p s := by
  rcases h with ⟨h, _⟩ | ⟨h, _⟩ | ⟨e, sc, hu, hs, _, h⟩
  · rw [flatT30] at h; cases h
  · rw [under30] at h; cases h
  · rw [under30] at hu
    cases hu
    rw [flatS68] at hs
    cases hs
    rcases h with rfl | ⟨len, cap, rfl, hlc, hcap, hf⟩
    · exact ⟨none, 0, 0, fun _ => 0, fun _ => 0, fun _ => 0, fun _ => 0, rfl, by decide, fun h => absurd h (by decide), ⟨by omega, fun i hi => by omega, fun i hi => by omega, fun i hi => by omega, fun i hi => by omega, fun i hi => by omega, fun i hi => by omega, fun i hi => by omega⟩⟩
    · have hm : maxLen = 9223372036854775807 := by decide
      exact ⟨_, len, cap, _, _, _, _, rfl, by omega, fun _ => rfl, ce_of hlc hf⟩
end Go.Proofs.Ytagjabnemfaknaa
