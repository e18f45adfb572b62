/-
  An argument that is a column.
-/
import Derived.Test.YtdjllbkfbmdlfaaC6
import Derived.ProofKit
namespace Go.Proofs.Ytdjllbkfbmdlfaa
open Go Go.AE
set_option maxRecDepth 100000
set_option linter.unusedSimpArgs false
theorem Try.own : ownKnob Try.prog.godebug = none := by kernel_rfl
theorem Try.laidOut : laidOutB Try.prog = true := by kernel_rfl
theorem Try.mixed : Try.prog.follows .mixedOrders = true := by kernel_rfl
theorem flat44 : flatT Try.prog 44 = some (true, List.replicate 177 (.f .f32) ++ [.i .i64]) := by kernel_rfl
def fbitsOf (l : List Value) (i : Nat) : Nat := match l[i]? with
  | some (.float _ b) => b
  | _ => 0
def intOfL (l : List Value) (i : Nat) : Int := match l[i]? with
  | some (.int _ b) => b
  | _ => 0
theorem col_of {v : Value} (h : Typed Try.prog 44 v) : ∃ l, v = .agg l.toArray ∧ ∃ d a g t, Col l d a g t ∧ -9223372036854775808 ≤ t ∧ t ≤ 9223372036854775807 := by
  unfold Typed at h
  rw [flat44] at h
  obtain ⟨l, rfl, hl⟩ := h
  have hf : ∀ i, i < 177 → l[i]? = some (.float .f32 (fbitsOf l i)) ∧ fbitsOf l i < 4294967296 ∧ cn .f32 (fbitsOf l i) = fbitsOf l i := by
    intro i hi
    obtain ⟨w, hw, hok⟩ := hl.get (i := i) (b := .f .f32) (by rw [List.getElem?_append_left (by simpa using hi), List.getElem?_replicate, if_pos hi])
    obtain ⟨b, rfl, hc, hlt⟩ := hok
    have : fbitsOf l i = b := by unfold fbitsOf; rw [hw]
    rw [this]
    exact ⟨hw, hlt, hc⟩
  obtain ⟨w, hw, hok⟩ := hl.get (i := 177) (b := .i .i64) (by simp)
  obtain ⟨t, rfl, ht⟩ := hok
  refine ⟨l, rfl, fun i => fbitsOf l i, fun i => fbitsOf l (160 + i), fbitsOf l 176, t, ⟨?_, ?_, ?_, hf 176 (by omega), hw⟩, ht.1, ht.2⟩
  · rw [hl.length]; simp
  · intro i hi
    rw [Nat.zero_add]
    exact hf i (by omega)
  · intro i hi
    exact hf (160 + i) (by omega)
abbrev zcol : Value := .agg (List.replicate 177 (Value.float .f32 0) ++ [Value.int .i64 0]).toArray
end Go.Proofs.Ytdjllbkfbmdlfaa
