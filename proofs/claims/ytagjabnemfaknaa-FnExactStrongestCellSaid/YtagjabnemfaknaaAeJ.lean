/-
  Singles that are not negative stand in the order of their words; whole numbers up to 200.
-/
import Derived.Test.YtagjabnemfaknaaAeI
namespace Go.AE
open Ieee
set_option linter.unusedVariables false
set_option linter.unusedSimpArgs false

/-- Significand and shift of a word. -/
def sg (r : Nat) : Nat := if r < 8388608 then r else 8388608 + r % 8388608
def sh (r : Nat) : Nat := if r < 8388608 then 0 else r / 8388608 - 1
theorem rd_pos (r : Nat) (h : r < 2139095040) : FloatKind.f32.format.read r = .number false (sg r) (-149 + (sh r : Int)) := by
  rw [rd32]
  have h1 : r % 2147483648 = r := Nat.mod_eq_of_lt (by omega)
  have h2 : (r / 2147483648 % 2 == 1) = false := by
    have : r / 2147483648 = 0 := by omega
    rw [this]; rfl
  rw [h1, h2]
  unfold sg sh
  by_cases h3 : r < 8388608
  · rw [if_pos h3, if_pos h3, if_pos h3]; rfl
  · rw [if_neg h3, if_neg h3, if_neg h3, if_pos h]
def vl (r : Nat) : Nat := sg r * 2 ^ sh r
theorem vl_lt {r s : Nat} (h : r < s) : vl r < vl s := by
  unfold vl sg sh
  by_cases h1 : s < 8388608
  · rw [if_pos (by omega), if_pos (by omega), if_pos h1, if_pos h1]; simpa using h
  · rw [if_neg h1, if_neg h1]
    by_cases h2 : r < 8388608
    · rw [if_pos h2, if_pos h2]
      have := Nat.two_pow_pos (s / 8388608 - 1)
      calc r * 2 ^ 0 = r := by simp
        _ < 8388608 + s % 8388608 := by omega
        _ ≤ _ := Nat.le_mul_of_pos_right _ this
    · rw [if_neg h2, if_neg h2]
      by_cases h3 : r / 8388608 = s / 8388608
      · rw [h3]
        exact Nat.mul_lt_mul_of_pos_right (by omega) (Nat.two_pow_pos _)
      · have h4 : s / 8388608 - 1 = (r / 8388608 - 1) + 1 + (s / 8388608 - r / 8388608 - 1) := by omega
        rw [h4, Nat.pow_add, Nat.pow_succ]
        have := Nat.two_pow_pos (s / 8388608 - r / 8388608 - 1)
        calc (8388608 + r % 8388608) * 2 ^ (r / 8388608 - 1) < (8388608 * 2) * 2 ^ (r / 8388608 - 1) := Nat.mul_lt_mul_of_pos_right (by omega) (Nat.two_pow_pos _)
          _ = 8388608 * (2 ^ (r / 8388608 - 1) * 2) := by rw [Nat.mul_assoc, Nat.mul_comm 2]
          _ ≤ 8388608 * (2 ^ (r / 8388608 - 1) * 2 * 2 ^ (s / 8388608 - r / 8388608 - 1)) := Nat.mul_le_mul_left _ (Nat.le_mul_of_pos_right _ this)
          _ ≤ _ := Nat.mul_le_mul_right _ (by omega)
theorem vl_le {r s : Nat} (h : r ≤ s) : vl r ≤ vl s := by
  rcases Nat.lt_or_eq_of_le h with h | h
  · exact Nat.le_of_lt (vl_lt h)
  · rw [h]; exact Nat.le_refl _
theorem cmp_nat (a b : Nat) : compare (a : Int) (b : Int) = if a < b then .lt else if a = b then .eq else .gt := by
  simp only [compare, compareOfLessAndEq]
  by_cases h1 : a < b
  · rw [if_pos (by omega), if_pos h1]
  · rw [if_neg (by omega), if_neg h1]
    by_cases h2 : a = b
    · rw [if_pos (by omega), if_pos h2]
    · rw [if_neg (by omega), if_neg h2]
theorem ord_num (m n k l : Nat) : (Datum.number false m (-149 + (k : Int))).order (.number false n (-149 + (l : Int))) = some (if m * 2 ^ k < n * 2 ^ l then .lt else if m * 2 ^ k = n * 2 ^ l then .eq else .gt) := by
  simp only [Datum.order]
  have e1 : (-149 + (k : Int) - min (-149 + (k : Int)) (-149 + (l : Int))).toNat = k - min k l := by omega
  have e2 : (-149 + (l : Int) - min (-149 + (k : Int)) (-149 + (l : Int))).toNat = l - min k l := by omega
  rw [e1, e2]
  unfold signed
  simp only [Bool.false_eq_true, if_false]
  rw [cmp_nat, Nat.shiftLeft_eq, Nat.shiftLeft_eq]
  have hk : 2 ^ k = 2 ^ (k - min k l) * 2 ^ min k l := by rw [← Nat.pow_add]; congr 1; omega
  have hl : 2 ^ l = 2 ^ (l - min k l) * 2 ^ min k l := by rw [← Nat.pow_add]; congr 1; omega
  have hp : 0 < 2 ^ min k l := Nat.two_pow_pos _
  rw [hk, hl, ← Nat.mul_assoc, ← Nat.mul_assoc]
  generalize m * 2 ^ (k - min k l) = a
  generalize n * 2 ^ (l - min k l) = b
  generalize 2 ^ min k l = c at hp
  have q1 : (a * c < b * c) ↔ a < b := Nat.mul_lt_mul_right hp
  have q2 : (a * c = b * c) ↔ a = b := Nat.mul_left_inj (by omega)
  simp only [q1, q2]
theorem ord_pos (r s : Nat) (hr : r < 2139095040) (hs : s < 2139095040) : FloatKind.f32.format.order r s = some (if r < s then .lt else if r = s then .eq else .gt) := by
  unfold Format.order
  rw [rd_pos r hr, rd_pos s hs, ord_num]
  have h1 : (sg r * 2 ^ sh r < sg s * 2 ^ sh s) ↔ r < s := by
    constructor
    · intro h
      rcases Nat.lt_or_ge r s with h2 | h2
      · exact h2
      · exact absurd h (Nat.not_lt.2 (vl_le h2))
    · exact vl_lt
  have h2 : (sg r * 2 ^ sh r = sg s * 2 ^ sh s) ↔ r = s := by
    constructor
    · intro h
      rcases Nat.lt_trichotomy r s with h2 | h2 | h2
      · have := vl_lt h2; unfold vl at this; omega
      · exact h2
      · have := vl_lt h2; unfold vl at this; omega
    · rintro rfl; rfl
  simp only [h1, h2]
/-- The word of a whole number. -/
def wn (n : Nat) : Nat := FloatKind.f32.nearest n
/-- A whole number up to 200. -/
def whole (x : Nat) : Bool := (List.range 201).any fun n => wn n == x
theorem wn_lt : ∀ n, n ≤ 200 → wn n < 2139095040 := by
  have : (List.range 201).all (fun n => decide (wn n < 2139095040)) = true := by decide +kernel
  intro n hn
  exact of_decide_eq_true (List.all_eq_true.1 this n (List.mem_range.2 (by omega)))
theorem wn_eq {n x : Nat} (hn : n ≤ 200) (hx : x < 2139095040) : (FloatKind.f32.format.order (wn n) x == some .eq) = (wn n == x) := by
  rw [ord_pos _ _ (wn_lt n hn) hx]
  by_cases h : wn n = x
  · rw [if_neg (by omega), if_pos h, h]; simp
  · rw [if_neg h]
    have : (wn n == x) = false := by simp [h]
    rw [this]
    split <;> rfl
theorem shl_le (m k : Nat) (hk : k < 149) (h : m * 2 ^ k ≤ 200 * 2 ^ 149) : m ≤ 200 * 2 ^ (149 - k) := by
  have : (2 : Nat) ^ 149 = 2 ^ (149 - k) * 2 ^ k := by rw [← Nat.pow_add]; congr 1; omega
  rw [this, ← Nat.mul_assoc] at h
  exact Nat.le_of_mul_le_mul_right h (Nat.two_pow_pos k)
theorem cut_le (way : Toward) (m d : Nat) (h : m ≤ 200 * 2 ^ d) (hw : way = .zero ∨ way = .even) : way.cut false m d ≤ 200 := by
  unfold Toward.cut
  simp only
  by_cases hd : d ≤ m.log2 + 2
  · rw [Nat.min_eq_left hd, Nat.one_shiftLeft]
    have hp := Nat.two_pow_pos d
    have hq := Nat.div_add_mod m (2 ^ d)
    have hr := Nat.mod_lt m hp
    have hlow : m / 2 ^ d ≤ 200 := Nat.div_le_of_le_mul (by rw [Nat.mul_comm]; exact h)
    rcases hw with rfl | rfl
    · simpa using hlow
    · by_cases h200 : m / 2 ^ d = 200
      · have : m % 2 ^ d = 0 := by
          rw [h200, Nat.mul_comm] at hq
          omega
        rw [this, h200]
        have e1 : decide (2 ^ d < 2 * 0) = false := by simp
        have e2 : (2 ^ d == 2 * 0) = false := by simp
        rw [e1, e2]
        decide
      · have key : ∀ b : Bool, m / 2 ^ d + b.toNat ≤ 200 := by
          intro b
          have := Bool.toNat_le b
          omega
        exact key _
  · rw [Nat.min_eq_right (by omega), Nat.one_shiftLeft]
    have : m / 2 ^ (m.log2 + 2) = 0 := Nat.div_eq_of_lt (Nat.lt_of_lt_of_le Nat.lt_log2_self (Nat.pow_le_pow_right (by decide) (by omega)))
    rw [this]
    have key : ∀ b : Bool, 0 + b.toNat ≤ 200 := by
      intro b
      have := Bool.toNat_le b
      omega
    exact key _
theorem sh_lt {x : Nat} (hx : x ≤ 1128792064) : sh x < 149 := by
  unfold sh; split <;> omega
theorem vl_200 {x : Nat} (hx : x ≤ 1128792064) : sg x * 2 ^ sh x ≤ 200 * 2 ^ 149 := by
  have h := vl_le hx
  have : vl 1128792064 = 200 * 2 ^ 149 := by decide +kernel
  rw [this] at h
  exact h
theorem cv_toInt (k : IntKind) (s : FloatKind) (b : Nat) : cvV (.toInt k) (.float s b) = match (s.decode b).toInt .zero with
    | some n => if k.min ≤ n ∧ n ≤ k.max then some (.int k n) else none
    | none => none := rfl
theorem to_int (x : Nat) (hx : x ≤ 1128792064) : ∃ n : Nat, n ≤ 200 ∧ cvV (.toInt .i64) (.float .f32 x) = some (.int .i64 (n : Int)) := by
  have hs := sh_lt hx
  have hm := shl_le _ _ hs (vl_200 hx)
  refine ⟨Toward.zero.cut false (sg x) (149 - sh x), cut_le _ _ _ hm (.inl rfl), ?_⟩
  have hle := cut_le .zero _ _ hm (.inl rfl)
  have hdec : FloatKind.f32.decode x = .number false (sg x) (-149 + (sh x : Int)) := rd_pos x (by omega)
  rw [cv_toInt, hdec]
  have e1 : (-149 + (sh x : Int)).toNat = 0 := by omega
  have e2 : (-(-149 + (sh x : Int))).toNat = 149 - sh x := by omega
  have hti : (Datum.number false (sg x) (-149 + (sh x : Int))).toInt .zero = some ((Toward.zero.cut false (sg x) (149 - sh x) : Nat) : Int) := by
    unfold Datum.toInt Datum.integral
    simp only [e1, e2, Nat.shiftLeft_zero]
    unfold signed
    simp
  rw [hti]
  have m1 : IntKind.i64.min = -9223372036854775808 := by decide
  have m2 : IntKind.i64.max = 9223372036854775807 := by decide
  simp only [m1, m2]
  rw [if_pos (by omega)]
theorem read_rung (s : Bool) (c q : Nat) (hq1 : 4503599627370496 ≤ q) (hq2 : q < 9007199254740992) (hc : c ≤ 2000) : FloatKind.f64.format.read (FloatKind.f64.format.word s (c * 4503599627370496 + q)) = .number s q (-1074 + (c : Int)) := by
  have e1 : FloatKind.f64.format.signWeight = 9223372036854775808 := by decide +kernel
  have e2 : FloatKind.f64.format.infRung = 9218868437227405312 := by decide +kernel
  have e3 : FloatKind.f64.format.binade = 4503599627370496 := by decide +kernel
  have e4 : FloatKind.f64.format.leastPlace = -1074 := by decide +kernel
  have hw : FloatKind.f64.format.word s (c * 4503599627370496 + q) % 9223372036854775808 = c * 4503599627370496 + q := by
    unfold Format.word
    rw [e1]
    cases s
    · simp only [Bool.false_eq_true, if_false]; omega
    · simp only [if_true]; omega
  have hsgn : (FloatKind.f64.format.word s (c * 4503599627370496 + q) / 9223372036854775808 % 2 == 1) = s := by
    unfold Format.word
    rw [e1]
    cases s
    · have h0 : (c * 4503599627370496 + q) / 9223372036854775808 = 0 := by omega
      simp only [Bool.false_eq_true, if_false, h0]; rfl
    · have h0 : (9223372036854775808 + (c * 4503599627370496 + q)) / 9223372036854775808 = 1 := by omega
      simp only [if_true, h0]; rfl
  unfold Format.read
  simp only [e1, e2, e3, e4, hw, hsgn]
  rw [if_neg (by omega), if_pos (by omega)]
  have h1 : 4503599627370496 + (c * 4503599627370496 + q) % 4503599627370496 = q := by omega
  have h2 : (c * 4503599627370496 + q) / 4503599627370496 - 1 = c := by omega
  rw [h1, h2]
theorem shift_ge (m : Nat) (h0 : m ≠ 0) (h : m.log2 < 24) : 4503599627370496 ≤ m <<< (52 - m.log2) := by
  rw [Nat.shiftLeft_eq]
  have h1 : 2 ^ m.log2 ≤ m := Nat.log2_self_le h0
  have h2 : 2 ^ m.log2 * 2 ^ (52 - m.log2) ≤ m * 2 ^ (52 - m.log2) := Nat.mul_le_mul_right _ h1
  rw [← Nat.pow_add, show m.log2 + (52 - m.log2) = 52 by omega] at h2
  exact h2
/-- What a single's number is as a double. -/
theorem wide_read (s : Bool) (m : Nat) (e : Int) (h0 : m ≠ 0) (hm : m < 16777216) (h1 : -149 ≤ e) (h2 : e ≤ 104) : FloatKind.f64.format.read (FloatKind.f64.format.nearest s m e) = .number s (m <<< (52 - m.log2)) (e + (m.log2 : Int) - 52) := by
  unfold Format.nearest
  rw [if_neg h0]
  have e1 : FloatKind.f64.format.binade = 4503599627370496 := by decide +kernel
  have e2 : FloatKind.f64.format.infRung = 9218868437227405312 := by decide +kernel
  have e3 : FloatKind.f64.format.leastPlace = -1074 := by decide +kernel
  have e4 : FloatKind.f64.format.fractionBits = 52 := by decide +kernel
  have hlog : m.log2 < 24 := (Nat.log2_lt h0).2 (by omega)
  simp only [e1, e2, e3, e4]
  have hlast : max (e + (m.log2 : Int) - ((52 : Nat) : Int)) (-1074) = e + m.log2 - 52 := by omega
  rw [hlast]
  have hd : (e + (m.log2 : Int) - 52 - e).toNat = 0 := by omega
  rw [hd, cut_none]
  have hs : (e - (e + (m.log2 : Int) - 52)).toNat = 52 - m.log2 := by omega
  rw [hs]
  have hb := shift_lt m hlog
  have ha := shift_ge m h0 hlog
  generalize m <<< (52 - m.log2) = q at ha hb ⊢
  generalize m.log2 = lg at hlog ⊢
  have hmin : min ((e + (lg : Int) - 52 - -1074).toNat * 4503599627370496 + q) 9218868437227405312 = (e + (lg : Int) - 52 - -1074).toNat * 4503599627370496 + q := Nat.min_eq_left (by omega)
  rw [hmin, read_rung s _ q ha hb (by omega)]
  congr 1
  omega
theorem back_small : ∀ n, n ≤ 200 → ffV .f64 (FloatKind.f64.encode (.number false n 0)) .f32 = some (wn n) := by
  have : (List.range 201).all (fun n => ffV .f64 (FloatKind.f64.encode (.number false n 0)) .f32 == some (wn n)) = true := by decide +kernel
  intro n hn
  exact eq_of_beq (List.all_eq_true.1 this n (List.mem_range.2 (by omega)))
theorem wide_pos (x : Nat) (hx : x < 2139095040) : ffV .f32 x .f64 = some (FloatKind.f64.format.nearest false (sg x) (-149 + (sh x : Int))) := by
  have hdec : FloatKind.f32.decode x = .number false (sg x) (-149 + (sh x : Int)) := rd_pos x hx
  have hs : sh x ≤ 253 := by unfold sh; split <;> omega
  have hm : sg x < 16777216 := by unfold sg; split <;> omega
  unfold ffV
  rw [if_neg (by decide), hdec]
  have := wide_fin false (sg x) (-149 + (sh x : Int)) hm (by omega) (by omega)
  have hfin : (FloatKind.f64.decode (FloatKind.f64.encode (.number false (sg x) (-149 + (sh x : Int))))).isInfinity = false := this
  simp only [hfin]
  rfl
theorem ext_rte0 (y : Nat) : extV .rte [.float .f64 y] = some (.float .f64 (if isn .f64 y then qn .f64 else FloatKind.f64.encode ((FloatKind.f64.decode y).integral .even))) := by
  simp only [extV]
theorem integral_num (way : Toward) (s : Bool) (m : Nat) (e : Int) (he : e ≤ 0) : (Datum.number s m e).integral way = .number s (way.cut s m (-e).toNat) 0 := by
  have e1 : e.toNat = 0 := by omega
  have e2 : (Datum.number s m e).integral way = .number s (way.cut s (m <<< e.toNat) (-e).toNat) 0 := by simp only [Datum.integral]
  rw [e2, e1, Nat.shiftLeft_zero]
theorem ext_rte (y : Nat) (s : Bool) (m : Nat) (e : Int) (h : FloatKind.f64.format.read y = .number s m e) (he : e ≤ 0) : extV .rte [.float .f64 y] = some (.float .f64 (FloatKind.f64.encode (.number s (Toward.even.cut s m (-e).toNat) 0))) := by
  have h1 : FloatKind.f64.decode y = .number s m e := h
  have h2 : isn .f64 y = false := by unfold isn; rw [h1]; rfl
  rw [ext_rte0, h2, h1, integral_num _ _ _ _ he, if_neg (by decide)]
theorem vl_log (x : Nat) (h0 : sg x ≠ 0) (hx : x ≤ 1128792064) : (sg x).log2 + sh x ≤ 156 := by
  have h1 := vl_200 hx
  have h2 : 2 ^ (sg x).log2 * 2 ^ sh x ≤ sg x * 2 ^ sh x := Nat.mul_le_mul_right _ (Nat.log2_self_le h0)
  rw [← Nat.pow_add] at h2
  have h3 : (200 : Nat) * 2 ^ 149 < 2 ^ 157 := by decide +kernel
  have h4 : 2 ^ ((sg x).log2 + sh x) < 2 ^ 157 := by omega
  have := (Nat.pow_lt_pow_iff_right (a := 2) (by decide)).1 h4
  omega
theorem rte_small (x : Nat) (hx : x ≤ 1128792064) : ∃ y z n, n ≤ 200 ∧ ffV .f32 x .f64 = some y ∧ extV .rte [.float .f64 y] = some (.float .f64 z) ∧ ffV .f64 z .f32 = some (wn n) := by
  by_cases h0 : sg x = 0
  · have : x = 0 := by unfold sg at h0; split at h0 <;> omega
    subst this
    exact ⟨0, 0, 0, by decide, by decide +kernel, congrArg some (congrArg (Value.float .f64) (by decide +kernel)), by decide +kernel⟩
  · have hs := sh_lt hx
    have hm : sg x < 16777216 := by unfold sg; split <;> omega
    have hl := vl_log x h0 hx
    have hlog : (sg x).log2 < 24 := (Nat.log2_lt h0).2 (by omega)
    have hr := wide_read false (sg x) (-149 + (sh x : Int)) h0 hm (by omega) (by omega)
    have hx2 := ext_rte _ _ _ _ hr (by omega)
    have hD : (-(-149 + (sh x : Int) + ((sg x).log2 : Int) - 52)).toNat = 201 - sh x - (sg x).log2 := by omega
    rw [hD] at hx2
    have hle : sg x <<< (52 - (sg x).log2) ≤ 200 * 2 ^ (201 - sh x - (sg x).log2) := by
      rw [Nat.shiftLeft_eq]
      have h1 := shl_le _ _ hs (vl_200 hx)
      have h2 : sg x * 2 ^ (52 - (sg x).log2) ≤ 200 * 2 ^ (149 - sh x) * 2 ^ (52 - (sg x).log2) := Nat.mul_le_mul_right _ h1
      rw [Nat.mul_assoc, ← Nat.pow_add] at h2
      rw [show 201 - sh x - (sg x).log2 = 149 - sh x + (52 - (sg x).log2) by omega]
      exact h2
    have hn := cut_le .even _ _ hle (.inr rfl)
    exact ⟨_, _, _, hn, wide_pos x (by omega), hx2, back_small _ hn⟩
theorem cv_ff (s k : FloatKind) (b y : Nat) (h : ffV s b k = some y) : cvV (.toFloat k) (.float s b) = some (.float k y) := by
  have : cvV (.toFloat k) (.float s b) = (ffV s b k).map (.float k) := rfl
  rw [this, h]; rfl
/-- Both ways to a whole number find the whole ones. -/
theorem whole_at {x : Nat} (h : whole x = true) : ∃ n, n ≤ 200 ∧ x = wn n := by
  unfold whole at h
  obtain ⟨n, hn, he⟩ := List.any_eq_true.1 h
  exact ⟨n, by have := List.mem_range.1 hn; omega, (eq_of_beq he).symm⟩
theorem not_whole {x n : Nat} (h : whole x = false) (hn : n ≤ 200) : (wn n == x) = false := by
  cases h2 : wn n == x with
  | false => rfl
  | true =>
    have : whole x = true := List.any_eq_true.2 ⟨n, List.mem_range.2 (by omega), h2⟩
    rw [h] at this; cases this
def chkI (x n : Nat) : Bool := match cvV (.toInt .i64) (.float .f32 x) with
  | some (.int _ k) => k == (n : Int)
  | _ => false
def chkR (x n : Nat) : Bool := match ffV .f32 x .f64 with
  | some y => match extV .rte [.float .f64 y] with
    | some (.float _ z) => ffV .f64 z .f32 == some (wn n)
    | _ => false
  | none => false
theorem chk_all : ∀ n, n ≤ 200 → chkI (wn n) n = true ∧ chkR (wn n) n = true := by
  have : (List.range 201).all (fun n => chkI (wn n) n && chkR (wn n) n) = true := by decide +kernel
  intro n hn
  have := List.all_eq_true.1 this n (List.mem_range.2 (by omega))
  rw [Bool.and_eq_true] at this
  exact this
theorem int_whole (x : Nat) (hx : x ≤ 1128792064) : ∃ n : Nat, cvV (.toInt .i64) (.float .f32 x) = some (.int .i64 (n : Int)) ∧ cvV (.toFloat .f32) (.int .i64 (n : Int)) = some (.float .f32 (wn n)) ∧ (FloatKind.f32.format.order (wn n) x == some .eq) = whole x := by
  obtain ⟨n, hn, h1⟩ := to_int x hx
  refine ⟨n, h1, rfl, ?_⟩
  rw [wn_eq hn (by omega)]
  cases hw : whole x with
  | false => exact not_whole hw hn
  | true =>
    obtain ⟨m, hm, rfl⟩ := whole_at hw
    have := (chk_all m hm).1
    unfold chkI at this
    rw [h1] at this
    have : n = m := by
      have h4 := eq_of_beq this
      omega
    rw [this]; simp
theorem rte_whole (x : Nat) (hx : x ≤ 1128792064) : ∃ y z w, cvV (.toFloat .f64) (.float .f32 x) = some (.float .f64 y) ∧ extV .rte [.float .f64 y] = some (.float .f64 z) ∧ cvV (.toFloat .f32) (.float .f64 z) = some (.float .f32 w) ∧ (FloatKind.f32.format.order w x == some .eq) = whole x := by
  obtain ⟨y, z, n, hn, h1, h2, h3⟩ := rte_small x hx
  refine ⟨y, z, wn n, cv_ff _ _ _ _ h1, h2, cv_ff _ _ _ _ h3, ?_⟩
  rw [wn_eq hn (by omega)]
  cases hw : whole x with
  | false => exact not_whole hw hn
  | true =>
    obtain ⟨m, hm, rfl⟩ := whole_at hw
    have := (chk_all m hm).2
    unfold chkR at this
    rw [h1] at this
    simp only [h2, h3] at this
    have h4 : wn n = wn m := by
      have := eq_of_beq this
      injection this
    rw [h4]; simp
end Go.AE
