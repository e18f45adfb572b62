/-
  The shares that fall: both of the program's tables.
-/
import Derived.Test.YtdjllbkfbmdlfaaT0
namespace Go.Proofs.Ytdjllbkfbmdlfaa
open Go Go.AE
set_option maxRecDepth 100000
set_option linter.unusedSimpArgs false
variable {R h : H}
/-- The radius of a class. -/
def rad (k : Nat) : Nat := [1065353216, 1067533592, 1070280693, 1073741824, 1075922200, 1078669301, 1082130432, 1084310808, 1087057909, 1090519040, 1092699416, 1095446517, 1098907648, 1101088024, 1103835125, 1107296256, 1109476632, 1112223733, 1115684864, 1117865240].getD k 0
def okR : Nat → Bool
  | 50 | 72 | 79 | 78 | 96 | 106 => true
  | _ => false
theorem okR_pure : ∀ g, okR g = true → pureFn okR (trFn Try.prog g) = true := by
  intro g hg
  have : g = 50 ∨ g = 72 ∨ g = 79 ∨ g = 78 ∨ g = 96 ∨ g = 106 := by
    unfold okR at hg
    split at hg <;> simp_all
  rcases this with rfl | rfl | rfl | rfl | rfl | rfl
  · rw [tr50]; rfl
  · rw [tr72]; rfl
  · rw [tr79]; rfl
  · rw [tr78]; rfl
  · rw [tr96]; rfl
  · rw [tr106]; rfl
def isF (b : Nat) : Option Value → Bool
  | some (.float .f32 c) => c == b
  | _ => false
theorem isF_eq {b : Nat} {o : Option Value} (h : isF b o = true) : o = some (.float .f32 b) := by
  unfold isF at h
  split at h
  · rw [eq_of_beq h]
  · cases h
theorem rad_all (R : H) : (List.range 20).all (fun k => isF (rad k) (((ev (trFn Try.prog) R 60).2 50 [.int .i64 (k : Int)] []).map fun p => p.1)) = true := by kernel_rfl
theorem rad_all2 (R : H) : (List.range 20).all (fun k => isF (rad k) (((ev (trFn Try.prog) R 60).2 78 [.int .i64 (k : Int)] []).map fun p => p.1)) = true := by kernel_rfl
theorem ev_some {n : Nat} {g : Nat} {args : List Value} (hg : okR g = true) {v : Value} (he : (((ev (trFn Try.prog) R n).2 g args []).map fun p => p.1) = some v) : EF (trFn Try.prog) R g args h = some (v, h, h.length, h.length) :=
  pure_any R okR_pure hg n h he
theorem call50 (k : Nat) (hk : k < 20) : EF (trFn Try.prog) R 50 [.int .i64 (k : Int)] h = some (.float .f32 (rad k), h, h.length, h.length) :=
  ev_some (n := 60) rfl (isF_eq (List.all_eq_true.1 (rad_all R) k (List.mem_range.2 hk)))
theorem call78 (k : Nat) (hk : k < 20) : EF (trFn Try.prog) R 78 [.int .i64 (k : Int)] h = some (.float .f32 (rad k), h, h.length, h.length) :=
  ev_some (n := 60) rfl (isF_eq (List.all_eq_true.1 (rad_all2 R) k (List.mem_range.2 hk)))
/-- The share of a class. -/
def shp (k : Nat) : Nat := far .mul .f32 (rad k) 1015021568
def shv (k : Nat) : Nat := if FloatKind.f32.format.order (shp k) 1065353216 == some .gt then 1065353216 else shp k
theorem shv_mm : ∀ k, k < 20 → mmL false (.float .f32 1065353216) [.float .f32 (shp k)] = some (.float .f32 (shv k)) := by
  have : (List.range 20).all (fun k => isF (shv k) (mmL false (.float .f32 1065353216) [.float .f32 (shp k)])) = true := by decide +kernel
  intro k hk
  exact isF_eq (List.all_eq_true.1 this k (List.mem_range.2 hk))
theorem op_mm (F : Ora) (R : H) (b : Bool) (x : Operand) (l : List Operand) (s : St) : evOp F R (.mm b (x :: l)) s = (mmL b (av s.fr x) (l.map (av s.fr))).map fun v => (v, s) := nd rfl
def z20 : List Value := List.replicate 20 (Value.float .f32 0)
/-- The table after so many rounds. -/
def shL : Nat → List Value
  | 0 => z20
  | i + 1 => splice (shL i) i [.float .f32 (shv i)]
theorem shL_len : ∀ i, i ≤ 20 → (shL i).length = 20
  | 0, _ => by simp [shL, z20]
  | i + 1, h => by
    unfold shL
    rw [splice_length (by simp [shL_len i (by omega)]; omega)]
    exact shL_len i (by omega)
theorem shL_get : ∀ i, i ≤ 20 → ∀ k, k < 20 → (shL i)[k]? = some (.float .f32 (if k < i then shv k else 0))
  | 0, _, k, hk => by
    unfold shL z20
    rw [List.getElem?_replicate, if_pos hk, if_neg (by omega)]
  | i + 1, h, k, hk => by
    unfold shL
    rw [splice_get (by simp [shL_len i (by omega)]; omega)]
    have ih := shL_get i (by omega) k hk
    by_cases h1 : k < i
    · rw [if_pos h1, ih, if_pos h1, if_pos (by omega)]
    · by_cases h2 : k = i
      · subst h2
        rw [if_neg h1, if_pos (by simp), if_pos (by omega), Nat.sub_self]; rfl
      · rw [if_neg h1, if_neg (by simp; omega), ih, if_neg h1, if_neg (by omega)]
theorem shL_fl : Fl (shL 20) 0 20 shv := fun k hk => by
  rw [Nat.zero_add, shL_get 20 (by omega) k hk, if_pos hk]
  have : (List.range 20).all (fun k => decide (shv k < 4294967296) && decide (cn .f32 (shv k) = shv k)) = true := by decide +kernel
  have := List.all_eq_true.1 this k (List.mem_range.2 hk)
  simp only [Bool.and_eq_true, decide_eq_true_eq] at this
  exact ⟨rfl, this⟩
end Go.Proofs.Ytdjllbkfbmdlfaa
