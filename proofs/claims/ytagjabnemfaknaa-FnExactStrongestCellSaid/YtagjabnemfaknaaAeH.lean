/-
  Small laws of numbers, for the laws' plain side.
-/
import Derived.Test.YtagjabnemfaknaaAeG
namespace Go.AE
open Ieee
set_option linter.unusedVariables false
set_option linter.unusedSimpArgs false

theorem cmp0 (n : Int) : compare n 0 = if n = 0 then .eq else if 0 < n then .gt else .lt := by
  simp only [compare, compareOfLessAndEq]
  by_cases h1 : n < 0
  · rw [if_pos h1, if_neg (by omega), if_neg (by omega)]
  · by_cases h2 : n = 0
    · rw [if_neg h1, if_pos h2, if_pos h2]
    · rw [if_neg h1, if_neg h2, if_neg h2, if_pos (by omega)]

theorem rd32 (x : Nat) : FloatKind.f32.format.read x =
    (if x % 2147483648 < 8388608 then .number (x / 2147483648 % 2 == 1) (x % 2147483648) (-149)
    else if x % 2147483648 < 2139095040 then .number (x / 2147483648 % 2 == 1) (8388608 + x % 2147483648 % 8388608) (-149 + (x % 2147483648 / 8388608 - 1 : Nat))
    else if x % 2147483648 = 2139095040 then .infinity (x / 2147483648 % 2 == 1)
    else .nan (x / 2147483648 % 2 == 1) (x % 2147483648 - 2139095040)) := by
  unfold Format.read
  simp only [show FloatKind.f32.format.signWeight = 2147483648 by decide +kernel, show FloatKind.f32.format.binade = 8388608 by decide +kernel, show FloatKind.f32.format.infRung = 2139095040 by decide +kernel, show FloatKind.f32.format.leastPlace = -149 by decide +kernel]

theorem ord_zero (s : Bool) (m : Nat) (k : Nat) : (Datum.number s m (-149 + (k : Int))).order (.number false 0 (-149)) = some (if m = 0 then .eq else if s then .lt else .gt) := by
  have h1 : (0 <<< k : Nat) = 0 := by simp
  simp only [Datum.order]
  have hb : min (-149 + (k : Int)) (-149) = -149 := by omega
  rw [hb]
  have hk : (-149 + (k : Int) - -149).toNat = k := by omega
  rw [hk]
  have h0 : signed false 0 ((-149 : Int) - -149).toNat = 0 := by decide
  rw [h0, cmp0]
  unfold signed
  have hm : m <<< k = m * 2 ^ k := Nat.shiftLeft_eq _ _
  have hp : 0 < 2 ^ k := Nat.two_pow_pos k
  by_cases h : m = 0
  · subst h; cases s <;> simp
  · have : 0 < m <<< k := by rw [hm]; exact Nat.mul_pos (by omega) hp
    cases s
    · simp only [Bool.false_eq_true, if_false, h]
      rw [if_neg (by omega), if_pos (by omega)]
    · simp only [if_true, h, if_false]
      rw [if_neg (by omega), if_neg (by omega)]

theorem ord0 (x : Nat) (hx : x < 4294967296) (hn : isn .f32 x = false) :
    FloatKind.f32.format.order x 0 = some (if x = 0 ∨ x = 2147483648 then .eq else if x < 2147483648 then .gt else .lt) := by
  have h0 : FloatKind.f32.format.read 0 = .number false 0 (-149) := by decide +kernel
  have hn' : (FloatKind.f32.format.read x).isNaN = false := hn
  unfold Format.order
  rw [h0]
  rw [rd32] at hn' ⊢
  have hs : (x / 2147483648 % 2 == 1) = decide (2147483648 ≤ x) := by
    rcases Nat.lt_or_ge x 2147483648 with h | h
    · rw [Nat.div_eq_of_lt h]; simp; omega
    · have : x / 2147483648 = 1 := by omega
      rw [this]; simp; omega
  have fin : ∀ (m : Nat) (hm : m = 0 ↔ (x = 0 ∨ x = 2147483648)), (some (if m = 0 then Ordering.eq else if (x / 2147483648 % 2 == 1) = true then .lt else .gt)) = some (if x = 0 ∨ x = 2147483648 then .eq else if x < 2147483648 then .gt else .lt) := by
    intro m hm
    rw [hs]
    by_cases h : m = 0
    · rw [if_pos h, if_pos (hm.1 h)]
    · rw [if_neg h, if_neg (fun hh => h (hm.2 hh))]
      rcases Nat.lt_or_ge x 2147483648 with h | h
      · rw [if_neg (by simp; omega), if_pos h]
      · rw [if_pos (by simp; omega), if_neg (by omega)]
  split at hn' <;> rename_i h1
  · rw [if_pos h1]
    have := ord_zero (x / 2147483648 % 2 == 1) (x % 2147483648) 0
    simp only [Int.natCast_zero, Int.add_zero] at this
    rw [this]
    exact fin _ (by omega)
  · rw [if_neg h1]
    split at hn' <;> rename_i h2
    · rw [if_pos h2, ord_zero]
      exact fin _ (by omega)
    · rw [if_neg h2]
      split at hn' <;> rename_i h3
      · rw [if_pos h3]
        simp only [Datum.order]
        rw [hs]
        rw [if_neg (show ¬ (x = 0 ∨ x = 2147483648) by omega)]
        rcases Nat.lt_or_ge x 2147483648 with h | h
        · rw [if_neg (by simp; omega), if_pos h]
        · rw [if_pos (by simp; omega), if_neg (by omega)]
      · simp [Datum.isNaN] at hn'

/-- 'a - a == 0': a finite number. -/
def fin32 (x : Nat) : Bool := FloatKind.f32.format.order (far .sub .f32 x x) 0 == some .eq
theorem fin_not {x : Nat} (hx : cn .f32 x = x) (h : fin32 x = true) : isn .f32 x = false := by
  cases hn : isn .f32 x with
  | false => rfl
  | true =>
    have : x = qn .f32 := by rw [← hx]; unfold cn; rw [if_pos hn]
    subst this
    have : fin32 (qn .f32) = false := by decide +kernel
    rw [this] at h; cases h

/-- An amount. -/
def am (x : Nat) : Bool := fin32 x && (x < 2147483648)
theorem am_gt {x : Nat} (hx : x < 4294967296) (hn : isn .f32 x = false) : (FloatKind.f32.format.order x 0 == some .gt) = decide (x ≠ 0 ∧ x < 2147483648) := by
  rw [ord0 x hx hn]
  by_cases h : x = 0 ∨ x = 2147483648
  · rw [if_pos h]; rw [decide_eq_false (by omega)]; rfl
  · rw [if_neg h]
    by_cases h2 : x < 2147483648
    · rw [if_pos h2, decide_eq_true (by omega)]; rfl
    · rw [if_neg h2, decide_eq_false (by omega)]; rfl
theorem am_ge {x : Nat} (hx : x < 4294967296) (hn : isn .f32 x = false) : (FloatKind.f32.format.order x 0 == some .gt || FloatKind.f32.format.order x 0 == some .eq) = decide (x ≤ 2147483648) := by
  rw [ord0 x hx hn]
  by_cases h : x = 0 ∨ x = 2147483648
  · rw [if_pos h]; rw [decide_eq_true (by omega)]; rfl
  · rw [if_neg h]
    by_cases h2 : x < 2147483648
    · rw [if_pos h2, decide_eq_true (by omega)]; rfl
    · rw [if_neg h2, decide_eq_false (by omega)]; rfl

theorem cut_none (neg : Bool) (n : Nat) : Toward.even.cut neg n 0 = n := by
  unfold Toward.cut
  simp
  constructor <;> omega

theorem rung_fin (s : Bool) (r : Nat) (h : r < 2047 * 4503599627370496) : (FloatKind.f64.format.read (FloatKind.f64.format.word s r)).isInfinity = false := by
  have e1 : FloatKind.f64.format.signWeight = 9223372036854775808 := by decide +kernel
  have e2 : FloatKind.f64.format.infRung = 9218868437227405312 := by decide +kernel
  have hw : FloatKind.f64.format.word s r % 9223372036854775808 = r := by
    unfold Format.word
    rw [e1]
    cases s
    · simp only [Bool.false_eq_true, if_false]; omega
    · simp only [if_true]; omega
  unfold Format.read
  simp only [e1, e2, hw]
  split
  · rfl
  · first | rfl | (rw [if_pos (by omega)]; rfl)

theorem shift_lt (m : Nat) (h : m.log2 < 24) : m <<< (52 - m.log2) < 9007199254740992 := by
  rw [Nat.shiftLeft_eq]
  have hm2 : m < 2 ^ (m.log2 + 1) := Nat.lt_log2_self
  have h1 : m * 2 ^ (52 - m.log2) < 2 ^ (m.log2 + 1) * 2 ^ (52 - m.log2) := Nat.mul_lt_mul_of_pos_right hm2 (Nat.two_pow_pos _)
  rw [← Nat.pow_add, show m.log2 + 1 + (52 - m.log2) = 53 by omega] at h1
  exact h1
theorem rung_lt (e : Int) (lg q : Nat) (h2 : e ≤ 104) (hlog : lg < 24) (hb : q < 9007199254740992) : min ((e + (lg : Int) - 52 - -1074).toNat * 4503599627370496 + q) 9218868437227405312 < 2047 * 4503599627370496 := by
  have h3 : (e + (lg : Int) - 52 - -1074).toNat ≤ 1200 := by omega
  generalize (e + (lg : Int) - 52 - -1074).toNat = k at h3
  omega

/-- A single's number is a double's. -/
theorem wide_fin (s : Bool) (m : Nat) (e : Int) (hm : m < 16777216) (h1 : -149 ≤ e) (h2 : e ≤ 104) : (FloatKind.f64.format.read (FloatKind.f64.format.write (.number s m e))).isInfinity = false := by
  simp only [Format.write]
  unfold Format.nearest
  split
  · exact rung_fin s 0 (by omega)
  · rename_i h0
    have e1 : FloatKind.f64.format.binade = 4503599627370496 := by decide +kernel
    have e2 : FloatKind.f64.format.infRung = 9218868437227405312 := by decide +kernel
    have e3 : FloatKind.f64.format.leastPlace = -1074 := by decide +kernel
    have e4 : FloatKind.f64.format.fractionBits = 52 := by decide +kernel
    have hlog : m.log2 < 24 := (Nat.log2_lt h0).2 (by omega)
    simp only [e1, e2, e3, e4]
    have hlast : max (e + (m.log2 : Int) - ((52 : Nat) : Int)) (-1074) = e + m.log2 - 52 := by omega
    rw [hlast]
    have hd : (e + (m.log2 : Int) - 52 - e).toNat = 0 := by omega
    rw [hd, cut_none]
    have hs : (e - (e + (m.log2 : Int) - 52)).toNat = 52 - m.log2 := by omega
    rw [hs]
    have hb := shift_lt m hlog
    generalize m <<< (52 - m.log2) = q at hb ⊢
    generalize m.log2 = lg at hlog ⊢
    exact rung_fin s _ (rung_lt e lg q h2 hlog hb)

theorem ff_wide (x : Nat) : ∃ y, ffV .f32 x .f64 = some y := by
  unfold ffV
  rw [if_neg (by decide)]
  have hr : FloatKind.f32.decode x = FloatKind.f32.format.read x := rfl
  rw [hr, rd32]
  split
  · rename_i h
    split at h
    · cases h
    · split at h
      · cases h
      · split at h <;> cases h
        exact ⟨_, rfl⟩
  · rename_i h
    exact ⟨_, rfl⟩
  · rename_i s m e h
    have hme : m < 16777216 ∧ -149 ≤ e ∧ e ≤ 104 := by
      split at h
      · cases h; omega
      · split at h
        · cases h
          have : x % 2147483648 % 8388608 < 8388608 := Nat.mod_lt _ (by decide)
          omega
        · split at h <;> cases h
    have := wide_fin s m e hme.1 hme.2.1 hme.2.2
    have hfin : (FloatKind.f64.decode (FloatKind.f64.encode (.number s m e))).isInfinity = false := this
    rw [hfin]
    exact ⟨_, rfl⟩

end Go.AE
