/-
  A number times one.
-/
import Derived.Test.YtagjabnemfaknaaAeH
namespace Go.AE
open Ieee
set_option linter.unusedVariables false
set_option linter.unusedSimpArgs false

theorem cut_pow (neg : Bool) (m : Nat) (h : m ≠ 0) : Toward.even.cut neg (m * 8388608) 23 = m := by
  unfold Toward.cut
  have hl : 23 ≤ (m * 8388608).log2 + 2 := by
    have : 8388608 ≤ m * 8388608 := Nat.le_mul_of_pos_left _ (by omega)
    have h2 : 23 ≤ (m * 8388608).log2 := (Nat.le_log2 (by omega)).2 (by omega)
    omega
  rw [Nat.min_eq_left hl]
  have e1 : (1 <<< 23 : Nat) = 8388608 := by decide
  simp only [e1]
  rw [Nat.mul_div_cancel _ (by decide), Nat.mul_mod_left]
  simp

theorem near_one (s : Bool) (m : Nat) (k : Nat) (hm : m ≠ 0) (hm2 : m < 16777216) (hk : k = 0 ∨ 8388608 ≤ m) (hk2 : k < 254) :
    FloatKind.f32.format.nearest s (m * 8388608) (-149 + (k : Int) + -23) = FloatKind.f32.format.word s (k * 8388608 + m) := by
  unfold Format.nearest
  rw [if_neg (by omega)]
  have e1 : FloatKind.f32.format.binade = 8388608 := by decide +kernel
  have e2 : FloatKind.f32.format.infRung = 2139095040 := by decide +kernel
  have e3 : FloatKind.f32.format.leastPlace = -149 := by decide +kernel
  have e4 : FloatKind.f32.format.fractionBits = 23 := by decide +kernel
  have hlog : (m * 8388608).log2 = m.log2 + 23 := by
    have h8 : (8388608 : Nat) = 2 ^ 23 := by decide
    have hne : m * 2 ^ 23 ≠ 0 := Nat.mul_ne_zero hm (by decide)
    have a1 : m.log2 + 23 ≤ (m * 2 ^ 23).log2 := (Nat.le_log2 hne).2 (by rw [Nat.pow_add]; exact Nat.mul_le_mul_right _ (Nat.log2_self_le hm))
    have a2 : (m * 2 ^ 23).log2 < m.log2 + 23 + 1 := (Nat.log2_lt hne).2 (by
      rw [show m.log2 + 23 + 1 = (m.log2 + 1) + 23 by omega, Nat.pow_add]
      exact Nat.mul_lt_mul_of_pos_right Nat.lt_log2_self (by decide))
    rw [h8]
    omega
  have hl24 : m.log2 < 24 := (Nat.log2_lt hm).2 (by omega)
  have hl23 : 8388608 ≤ m → 23 ≤ m.log2 := fun h => (Nat.le_log2 hm).2 (by omega)
  simp only [e1, e2, e3, e4, hlog]
  have hlast : max (-149 + (k : Int) + -23 + ((m.log2 + 23 : Nat) : Int) - ((23 : Nat) : Int)) (-149) = -149 + k := by
    rcases hk with rfl | h
    · omega
    · have := hl23 h; omega
  rw [hlast]
  have h1 : (-149 + (k : Int) + -23 - (-149 + k)).toNat = 0 := by omega
  have h2 : (-149 + (k : Int) - (-149 + (k : Int) + -23)).toNat = 23 := by omega
  have h3 : (-149 + (k : Int) - -149).toNat = k := by omega
  rw [h1, h2, h3, Nat.shiftLeft_zero, cut_pow s m hm]
  have hmin : min (k * 8388608 + m) 2139095040 = k * 8388608 + m := Nat.min_eq_left (by omega)
  rw [hmin]

theorem word32 (x r : Nat) (hx : x < 4294967296) (hr : r = x % 2147483648) : FloatKind.f32.format.word (x / 2147483648 % 2 == 1) r = x := by
  have e : FloatKind.f32.format.signWeight = 2147483648 := by decide +kernel
  unfold Format.word
  rw [e]
  rcases Nat.lt_or_ge x 2147483648 with h | h
  · rw [Nat.div_eq_of_lt h]; simp; omega
  · have : x / 2147483648 = 1 := by omega
    rw [this]; simp; omega

theorem mul_num (f : Format) (x y : Nat) (s t : Bool) (m n : Nat) (e j : Int) (h1 : f.read x = .number s m e) (h2 : f.read y = .number t n j) : f.mul x y = some (f.nearest (s ^^ t) (m * n) (e + j)) := by
  unfold Format.mul
  rw [h1, h2]
  rfl
theorem far_mul (x y r : Nat) (h : FloatKind.f32.format.mul x y = some r) : far .mul .f32 x y = r := by
  have : far .mul .f32 x y = (FloatKind.f32.format.mul x y).getD (qn .f32) := rfl
  rw [this, h]
  rfl
theorem mul_one32 (x : Nat) (hx : x < 4294967296) (hf : x % 2147483648 < 2139095040) : far .mul .f32 x 1065353216 = x := by
  have h1 : FloatKind.f32.format.read 1065353216 = .number false 8388608 (-23) := by decide +kernel
  refine far_mul x _ x ?_
  have hr := rd32 x
  by_cases h2 : x % 2147483648 < 8388608
  · rw [if_pos h2] at hr
    rw [mul_num _ _ _ _ _ _ _ _ _ hr h1, Bool.xor_false]
    refine congrArg some ?_
    by_cases h3 : x % 2147483648 = 0
    · rw [h3, Nat.zero_mul]
      unfold Format.nearest
      rw [if_pos rfl]
      exact word32 x 0 hx h3.symm
    · have := near_one (x / 2147483648 % 2 == 1) (x % 2147483648) 0 h3 (by omega) (.inl rfl) (by omega)
      rw [Int.natCast_zero, Int.add_zero] at this
      rw [this]
      exact word32 x _ hx (by omega)
  · rw [if_neg h2, if_pos hf] at hr
    rw [mul_num _ _ _ _ _ _ _ _ _ hr h1, Bool.xor_false]
    refine congrArg some ?_
    have := near_one (x / 2147483648 % 2 == 1) (8388608 + x % 2147483648 % 8388608) (x % 2147483648 / 8388608 - 1) (by omega) (by omega) (.inr (by omega)) (by omega)
    rw [this]
    exact word32 x _ hx (by omega)
theorem fin_lt {x : Nat} (hx : x < 4294967296) (hc : cn .f32 x = x) (h : fin32 x = true) : x % 2147483648 < 2139095040 := by
  have hn : (FloatKind.f32.format.read x).isNaN = false := fin_not hc h
  rw [rd32] at hn
  split at hn
  · omega
  · split at hn
    · omega
    · split at hn
      · rename_i h1 h2 h3
        have : x = 2139095040 ∨ x = 4286578688 := by omega
        rcases this with rfl | rfl
        · have : fin32 2139095040 = false := by decide +kernel
          rw [this] at h; cases h
        · have : fin32 4286578688 = false := by decide +kernel
          rw [this] at h; cases h
      · simp [Datum.isNaN] at hn
theorem am_lt {x : Nat} (hx : x < 4294967296) (hc : cn .f32 x = x) (h : am x = true) : x < 2139095040 := by
  unfold am at h
  rw [Bool.and_eq_true] at h
  have h1 := fin_lt hx hc h.1
  have h2 := of_decide_eq_true h.2
  omega

end Go.AE
