/-
  The law 'FnExactSettleOnce' returns true at every input: the program's two answers for what a column is after a tick are the same.
-/
import Derived.Test.YtdjllbkfbmdlfaaT5
import Derived.Test.YtdjllbkfbmdlfaaRows
namespace Go.Proofs.Ytdjllbkfbmdlfaa
open Go Go.AE Go.ChangeShapes Go.WideShapes Go.ChangeAt Go.RowKit
set_option maxRecDepth 100000
theorem x_lifted (os : Os) (started : os.Started) (H : Type) (enc : TypeId × Value → H) :
    ReturnsInHanded {} Try.checked os 13 .any (Rows.fnExactSettleOnceSpec.pre6 enc Try.prog Try.f13 Rows.fnExactSettleOnceRow.domain false) (Rows.fnExactSettleOnceSpec.post enc Try.prog Try.f13 false true false false) := by
  refine returnsInHanded_of_change (C := Try.checked) Try.own started (by kernel_rfl) Try.func13
    (ChangeSpec.witness6 (enc := enc) (C := Try.checked) false ⟨#[], #[zcol], []⟩ 8 (by kernel_rfl) (by kernel_rfl) (by kernel_rfl) (by kernel_rfl)) ?_
  intro W base args ds gs before hval hW _ _
  refine contract (P := Try.prog) (fn := Try.f13) Try.mixed Try.laidOut Try.func13 (by kernel_rfl) (by kernel_rfl) (by kernel_rfl) (by kernel_rfl) (t0 := 4) (by kernel_rfl) (by kernel_rfl) rfl ?_ ?_ W base args ds gs before hval hW
  · intro ds hd
    have hp : Try.f13.params.toList = [44] := by kernel_rfl
    rw [hp] at hd
    match ds, hd with
    | [d], _ => rfl
  · intro xs has
    have hp : Try.f13.params.toList = [44] := by kernel_rfl
    rw [hp] at has
    match xs, has with
    | [a], ⟨ha, _⟩ =>
      obtain ⟨l, rfl, d, a, g, t, hl, _⟩ := col_of ha
      exact ⟨_, _, _, call13 hl⟩
theorem x_holds : Rows.FnExactSettleOnceSaid :=
  OpenClaim.holds_of_wide 13 Try.f13 rfl rfl rfl rfl rfl rfl rfl ⟨rfl, rfl, rfl, rfl, rfl⟩ rfl rfl rfl rfl rfl (by kernel_rfl) Try.func13 (by kernel_rfl)
    (of_decide_eq_true (by kernel_rfl)) (by unfold Func.isWrapper; first | (rw [if_pos (by decide +kernel)]; kernel_rfl) | (rw [if_neg (by decide +kernel)]; exact ⟨rfl, rfl⟩))
    (fun os started H enc _ => x_lifted os started H enc)
end Go.Proofs.Ytdjllbkfbmdlfaa
