/-
  The law 'FnExactSameColumn' returns true at every input: the program's two tests of the sameness of two columns come to the same.
-/
import Derived.Test.YtdjllbkfbmdlfaaS2
import Derived.Test.YtdjllbkfbmdlfaaC7
import Derived.Test.YtdjllbkfbmdlfaaRows
namespace Go.Proofs.Ytdjllbkfbmdlfaa
open Go Go.AE Go.ChangeShapes Go.WideShapes Go.ChangeAt Go.RowKit
set_option maxRecDepth 100000
theorem x_lifted (os : Os) (started : os.Started) (H : Type) (enc : TypeId × Value → H) :
    ReturnsInHanded {} Try.checked os 6 .any (Rows.fnExactSameColumnSpec.pre6 enc Try.prog Try.f6 Rows.fnExactSameColumnRow.domain false) (Rows.fnExactSameColumnSpec.post enc Try.prog Try.f6 false true false false) := by
  refine returnsInHanded_of_change (C := Try.checked) Try.own started (by kernel_rfl) Try.func6
    (ChangeSpec.witness6 (enc := enc) (C := Try.checked) false ⟨#[], #[zcol, zcol], []⟩ 8 (by kernel_rfl) (by kernel_rfl) (by kernel_rfl) (by kernel_rfl)) ?_
  intro W base args ds gs before hval hW _ _
  refine contract (P := Try.prog) (fn := Try.f6) Try.mixed Try.laidOut Try.func6 (by kernel_rfl) (by kernel_rfl) (by kernel_rfl) (by kernel_rfl) (t0 := 4) (by kernel_rfl) (by kernel_rfl) rfl ?_ ?_ W base args ds gs before hval hW
  · intro ds hd
    have hp : Try.f6.params.toList = [44, 44] := by kernel_rfl
    rw [hp] at hd
    match ds, hd with
    | [d1, d2], _ => rfl
  · intro xs has
    have hp : Try.f6.params.toList = [44, 44] := by kernel_rfl
    rw [hp] at has
    match xs, has with
    | [a, b], ⟨ha, hb, _⟩ =>
      obtain ⟨l, rfl, d, a, g, t, hl, _⟩ := col_of ha
      obtain ⟨m, rfl, d', a', g', t', hm, _⟩ := col_of hb
      exact ⟨_, _, _, call6 hl hm⟩
theorem x_holds : Rows.FnExactSameColumnSaid :=
  OpenClaim.holds_of_wide 6 Try.f6 rfl rfl rfl rfl rfl rfl rfl ⟨rfl, rfl, rfl, rfl, rfl⟩ rfl rfl rfl rfl rfl (by kernel_rfl) Try.func6 (by kernel_rfl)
    (of_decide_eq_true (by kernel_rfl)) (by unfold Func.isWrapper; first | (rw [if_pos (by decide +kernel)]; kernel_rfl) | (rw [if_neg (by decide +kernel)]; exact ⟨rfl, rfl⟩))
    (fun os started H enc _ => x_lifted os started H enc)
end Go.Proofs.Ytdjllbkfbmdlfaa
