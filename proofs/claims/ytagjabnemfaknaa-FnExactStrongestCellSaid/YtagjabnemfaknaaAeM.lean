/-
  A square root of a single's number is a single's number.
-/
import Derived.Test.YtagjabnemfaknaaAeJ
namespace Go.AE
open Ieee
set_option linter.unusedVariables false
set_option linter.unusedSimpArgs false

theorem kept_le (s : Bool) (fb mag : Nat) (place last : Int) (h0 : mag ≠ 0) (h : place + mag.log2 - fb ≤ last) :
    Toward.even.cut s (mag <<< (place - last).toNat) (last - place).toNat ≤ 2 ^ (fb + 1) := by
  have hlt : mag < 2 ^ (mag.log2 + 1) := Nat.lt_log2_self
  by_cases hp : last < place
  · have h2 : (last - place).toNat = 0 := by omega
    rw [h2, cut_none, Nat.shiftLeft_eq]
    have h3 : mag * 2 ^ (place - last).toNat < 2 ^ (mag.log2 + 1) * 2 ^ (place - last).toNat := Nat.mul_lt_mul_of_pos_right hlt (Nat.two_pow_pos _)
    rw [← Nat.pow_add] at h3
    exact Nat.le_of_lt (Nat.lt_of_lt_of_le h3 (Nat.pow_le_pow_right (by decide) (by omega)))
  · have h2 : (place - last).toNat = 0 := by omega
    rw [h2, Nat.shiftLeft_zero]
    unfold Toward.cut
    simp only
    have key : ∀ (q : Nat) (b : Bool), q < 2 ^ (fb + 1) → q + b.toNat ≤ 2 ^ (fb + 1) := by
      intro q b hq
      have := Bool.toNat_le b
      omega
    refine key _ _ ?_
    rw [Nat.one_shiftLeft]
    by_cases hd : (last - place).toNat ≤ mag.log2 + 2
    · rw [Nat.min_eq_left hd]
      refine Nat.div_lt_of_lt_mul ?_
      rw [← Nat.pow_add]
      exact Nat.lt_of_lt_of_le hlt (Nat.pow_le_pow_right (by decide) (by omega))
    · rw [Nat.min_eq_right (by omega)]
      rw [Nat.div_eq_of_lt (Nat.lt_of_lt_of_le hlt (Nat.pow_le_pow_right (by decide) (by omega)))]
      exact Nat.two_pow_pos _
theorem near64 (s : Bool) (m : Nat) (p : Int) (h : p + m.log2 ≤ 66) : ∃ r, FloatKind.f64.format.nearest s m p = FloatKind.f64.format.word s r ∧ r ≤ 1091 * 4503599627370496 := by
  unfold Format.nearest
  split
  · exact ⟨0, rfl, by decide⟩
  · rename_i h0
    have e1 : FloatKind.f64.format.binade = 4503599627370496 := by decide +kernel
    have e2 : FloatKind.f64.format.infRung = 9218868437227405312 := by decide +kernel
    have e3 : FloatKind.f64.format.leastPlace = -1074 := by decide +kernel
    have e4 : FloatKind.f64.format.fractionBits = 52 := by decide +kernel
    simp only [e1, e2, e3, e4]
    have hk := kept_le s 52 m p (max (p + (m.log2 : Int) - ((52 : Nat) : Int)) (-1074)) h0 (by omega)
    have e5 : (2 : Nat) ^ (52 + 1) = 9007199254740992 := by decide
    rw [e5] at hk
    refine ⟨_, rfl, ?_⟩
    have hl : (max (p + (m.log2 : Int) - ((52 : Nat) : Int)) (-1074) - -1074).toNat ≤ 1088 := by omega
    generalize (max (p + (m.log2 : Int) - ((52 : Nat) : Int)) (-1074) - -1074).toNat = k at hl
    generalize Toward.even.cut s _ _ = q at hk ⊢
    omega
theorem read64 (s : Bool) (r : Nat) (h : r ≤ 1091 * 4503599627370496) : ∃ m e, FloatKind.f64.format.read (FloatKind.f64.format.word s r) = .number s m e ∧ m < 9007199254740992 ∧ e ≤ 17 := by
  have e1 : FloatKind.f64.format.signWeight = 9223372036854775808 := by decide +kernel
  have e2 : FloatKind.f64.format.infRung = 9218868437227405312 := by decide +kernel
  have e3 : FloatKind.f64.format.binade = 4503599627370496 := by decide +kernel
  have e4 : FloatKind.f64.format.leastPlace = -1074 := by decide +kernel
  have hw : FloatKind.f64.format.word s r % 9223372036854775808 = r := by
    unfold Format.word
    rw [e1]
    cases s
    · simp only [Bool.false_eq_true, if_false]; omega
    · simp only [if_true]; omega
  have hsgn : (FloatKind.f64.format.word s r / 9223372036854775808 % 2 == 1) = s := by
    unfold Format.word
    rw [e1]
    cases s
    · have h0 : r / 9223372036854775808 = 0 := by omega
      simp only [Bool.false_eq_true, if_false, h0]; rfl
    · have h0 : (9223372036854775808 + r) / 9223372036854775808 = 1 := by omega
      simp only [if_true, h0]; rfl
  unfold Format.read
  simp only [e1, e2, e3, e4, hw, hsgn]
  by_cases h1 : r < 4503599627370496
  · rw [if_pos h1]
    exact ⟨_, _, rfl, by omega, by omega⟩
  · rw [if_neg h1, if_pos (by omega)]
    exact ⟨_, _, rfl, by omega, by omega⟩
theorem near32 (s : Bool) (m : Nat) (p : Int) (hm : m < 9007199254740992) (hp : p ≤ 17) : ∃ r, FloatKind.f32.format.nearest s m p = FloatKind.f32.format.word s r ∧ r ≤ 200 * 8388608 := by
  unfold Format.nearest
  split
  · exact ⟨0, rfl, by decide⟩
  · rename_i h0
    have e1 : FloatKind.f32.format.binade = 8388608 := by decide +kernel
    have e2 : FloatKind.f32.format.infRung = 2139095040 := by decide +kernel
    have e3 : FloatKind.f32.format.leastPlace = -149 := by decide +kernel
    have e4 : FloatKind.f32.format.fractionBits = 23 := by decide +kernel
    have hlog : m.log2 < 53 := (Nat.log2_lt h0).2 (by omega)
    simp only [e1, e2, e3, e4]
    have hk := kept_le s 23 m p (max (p + (m.log2 : Int) - ((23 : Nat) : Int)) (-149)) h0 (by omega)
    have e5 : (2 : Nat) ^ (23 + 1) = 16777216 := by decide
    rw [e5] at hk
    refine ⟨_, rfl, ?_⟩
    have hl : (max (p + (m.log2 : Int) - ((23 : Nat) : Int)) (-149) - -149).toNat ≤ 195 := by omega
    generalize (max (p + (m.log2 : Int) - ((23 : Nat) : Int)) (-149) - -149).toNat = k at hl
    generalize Toward.even.cut s _ _ = q at hk ⊢
    omega
theorem fin_word32 (s : Bool) (r : Nat) (h : r ≤ 200 * 8388608) : (FloatKind.f32.format.read (FloatKind.f32.format.word s r)).isInfinity = false := by
  have e1 : FloatKind.f32.format.signWeight = 2147483648 := by decide +kernel
  have e2 : FloatKind.f32.format.infRung = 2139095040 := by decide +kernel
  have e3 : FloatKind.f32.format.binade = 8388608 := by decide +kernel
  have hw : FloatKind.f32.format.word s r % 2147483648 = r := by
    unfold Format.word
    rw [e1]
    cases s
    · simp only [Bool.false_eq_true, if_false]; omega
    · simp only [if_true]; omega
  unfold Format.read
  simp only [e1, e2, e3, hw]
  by_cases h1 : r < 8388608
  · rw [if_pos h1]; rfl
  · rw [if_neg h1, if_pos (by omega)]; rfl
theorem rootFrom_sq (n : Nat) : ∀ (todo root : Nat), root * root ≤ n → Datum.rootFrom n todo root * Datum.rootFrom n todo root ≤ n
  | 0, root, h => h
  | todo + 1, root, h => by
    unfold Datum.rootFrom
    refine rootFrom_sq n todo _ ?_
    split
    · assumption
    · exact h
/-- What a root is. -/
theorem root_num (m : Nat) (i : Int) (h0 : m ≠ 0) (hm : m < 9007199254740992) (hi : i ≤ 75) : ∃ N p, Datum.root 54 (.number false m i) = some (.number false N p) ∧ p + (N.log2 : Int) ≤ 66 := by
  have hlog : m.log2 < 53 := (Nat.log2_lt h0).2 (by omega)
  unfold Datum.root
  simp only [h0, if_false, Bool.false_eq_true]
  generalize hmore : 2 * 54 - m.log2 + ((i - ((2 * 54 - m.log2 : Nat) : Int)) % 2).toNat = more
  have hmore1 : 56 ≤ more := by omega
  have hmore2 : m.log2 + more ≤ 109 := by omega
  refine ⟨_, _, rfl, ?_⟩
  have hsq := rootFrom_sq (m <<< more) ((m <<< more).log2 / 2 + 1) 0 (by simp)
  generalize Datum.rootFrom (m <<< more) ((m <<< more).log2 / 2 + 1) 0 = whole at hsq ⊢
  have hn : m <<< more < 2 ^ 110 := by
    rw [Nat.shiftLeft_eq]
    have hlt : m < 2 ^ (m.log2 + 1) := Nat.lt_log2_self
    have h3 : m * 2 ^ more < 2 ^ (m.log2 + 1) * 2 ^ more := Nat.mul_lt_mul_of_pos_right hlt (Nat.two_pow_pos _)
    rw [← Nat.pow_add] at h3
    exact Nat.lt_of_lt_of_le h3 (Nat.pow_le_pow_right (by decide) (by omega))
  have hw : whole < 2 ^ 55 := by
    rcases Nat.lt_or_ge whole (2 ^ 55) with h | h
    · exact h
    · exfalso
      have := Nat.mul_le_mul h h
      rw [← Nat.pow_add] at this
      omega
  have key : ∀ b : Bool, 2 * whole + b.toNat < 2 ^ 56 := by
    intro b
    have := Bool.toNat_le b
    omega
  have hlogN : ∀ N : Nat, N < 2 ^ 56 → N.log2 ≤ 55 := by
    intro N hN
    by_cases hz : N = 0
    · subst hz; decide
    · have := (Nat.log2_lt hz).2 hN
      omega
  have := hlogN _ (key (whole * whole != m <<< more))
  omega
/-- The root of a single's number, as a single. -/
theorem root_back (s : Bool) (m : Nat) (i : Int) (hm : m < 9007199254740992) (hi : i ≤ 75) (y : Nat) (hy : FloatKind.f64.format.read y = .number s m i) :
    ∃ z w, extV .sqrt [.float .f64 y] = some (.float .f64 z) ∧ ffV .f64 z .f32 = some w := by
  have he : extV .sqrt [.float .f64 y] = some (.float .f64 ((FloatKind.f64.format.sqrt y).getD (qn .f64))) := by simp only [extV]
  have fin : ∀ (s : Bool) (r : Nat), r ≤ 1091 * 4503599627370496 → ∃ w, ffV .f64 (FloatKind.f64.format.word s r) .f32 = some w := by
    intro s r hr
    obtain ⟨m', e', h1, h2, h3⟩ := read64 s r hr
    obtain ⟨r2, h4, h5⟩ := near32 s m' e' h2 h3
    have hdec : FloatKind.f64.decode (FloatKind.f64.format.word s r) = .number s m' e' := h1
    have hinf : (FloatKind.f32.decode (FloatKind.f32.encode (.number s m' e'))).isInfinity = false := by
      have : FloatKind.f32.encode (.number s m' e') = FloatKind.f32.format.nearest s m' e' := rfl
      rw [this, h4]
      exact fin_word32 s r2 h5
    unfold ffV
    rw [if_neg (by decide), hdec]
    simp only [hinf]
    exact ⟨_, rfl⟩
  have hfb : FloatKind.f64.format.fractionBits + 2 = 54 := by decide +kernel
  have hs : FloatKind.f64.format.sqrt y = (Datum.root 54 (.number s m i)).map FloatKind.f64.format.write := by
    unfold Format.sqrt
    rw [hy, hfb]
  rw [he, hs]
  by_cases h0 : m = 0
  · subst h0
    have : Datum.root 54 (.number s 0 i) = some (.number s 0 i) := by
      unfold Datum.root
      simp only [if_true]
    rw [this, om_some, Option.getD_some]
    have hw : FloatKind.f64.format.write (.number s 0 i) = FloatKind.f64.format.word s 0 := by
      unfold Format.write Format.nearest
      simp only [if_true]
    rw [hw]
    obtain ⟨w, h⟩ := fin s 0 (by decide)
    exact ⟨_, w, rfl, h⟩
  · cases s with
    | true =>
      have : Datum.root 54 (.number true m i) = none := by
        unfold Datum.root
        simp only [h0, if_false, if_true]
      rw [this, om_none, Option.getD_none]
      exact ⟨_, qn .f32, rfl, by decide +kernel⟩
    | false =>
      obtain ⟨N, p, hr, hp⟩ := root_num m i h0 hm hi
      rw [hr, om_some, Option.getD_some]
      obtain ⟨r, h1, h2⟩ := near64 false N p hp
      have hw : FloatKind.f64.format.write (.number false N p) = FloatKind.f64.format.word false r := h1
      rw [hw]
      obtain ⟨w, h⟩ := fin false r h2
      exact ⟨_, w, rfl, h⟩
theorem root32 (x : Nat) (hx : x < 4294967296) (hf : x % 2147483648 < 2139095040) : ∃ y z w, cvV (.toFloat .f64) (.float .f32 x) = some (.float .f64 y) ∧ extV .sqrt [.float .f64 y] = some (.float .f64 z) ∧ cvV (.toFloat .f32) (.float .f64 z) = some (.float .f32 w) := by
  have hr : ∃ s m, ∃ e : Int, FloatKind.f32.format.read x = .number s m e ∧ m < 16777216 ∧ -149 ≤ e ∧ e ≤ 104 := by
    rw [rd32]
    by_cases h : x % 2147483648 < 8388608
    · rw [if_pos h]; exact ⟨_, _, _, rfl, by omega, by omega, by omega⟩
    · rw [if_neg h, if_pos hf]; exact ⟨_, _, _, rfl, by omega, by omega, by omega⟩
  obtain ⟨s, m, e, hr, hm, h1, h2⟩ := hr
  have hdec : FloatKind.f32.decode x = .number s m e := hr
  have hy : ffV .f32 x .f64 = some (FloatKind.f64.format.nearest s m e) := by
    unfold ffV
    rw [if_neg (by decide), hdec]
    have := wide_fin s m e hm h1 h2
    have hfin : (FloatKind.f64.decode (FloatKind.f64.encode (.number s m e))).isInfinity = false := this
    simp only [hfin]
    rfl
  have hread : ∃ m' e', FloatKind.f64.format.read (FloatKind.f64.format.nearest s m e) = .number s m' e' ∧ m' < 9007199254740992 ∧ e' ≤ 75 := by
    by_cases h0 : m = 0
    · subst h0
      have : FloatKind.f64.format.nearest s 0 e = FloatKind.f64.format.word s 0 := by
        unfold Format.nearest
        simp only [if_true]
      rw [this]
      obtain ⟨m', e', q1, q2, q3⟩ := read64 s 0 (by decide)
      exact ⟨m', e', q1, q2, by omega⟩
    · have hlog : m.log2 < 24 := (Nat.log2_lt h0).2 (by omega)
      exact ⟨_, _, wide_read s m e h0 hm h1 h2, shift_lt m hlog, by omega⟩
  obtain ⟨m', e', q1, q2, q3⟩ := hread
  obtain ⟨z, w, h3, h4⟩ := root_back s m' e' q2 q3 _ q1
  exact ⟨_, z, w, cv_ff _ _ _ _ hy, h3, cv_ff _ _ _ _ h4⟩
end Go.AE
