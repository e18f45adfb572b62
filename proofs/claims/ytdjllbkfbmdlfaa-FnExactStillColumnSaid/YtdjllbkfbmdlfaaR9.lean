/-
  The law 'FnExactStillColumn' returns true at every input: the program's two makers of a still column give the same.
-/
import Derived.Test.YtdjllbkfbmdlfaaE3
import Derived.Test.YtdjllbkfbmdlfaaRows
namespace Go.Proofs.Ytdjllbkfbmdlfaa
open Go Go.AE Go.ChangeShapes Go.WideShapes Go.ChangeAt Go.RowKit
set_option maxRecDepth 100000
theorem flat28 : flatT Try.prog 28 = some (false, [.f .f32]) := by kernel_rfl
theorem x_lifted (os : Os) (started : os.Started) (H : Type) (enc : TypeId × Value → H) :
    ReturnsInHanded {} Try.checked os 9 .any (Rows.fnExactStillColumnSpec.pre6 enc Try.prog Try.f9 Rows.fnExactStillColumnRow.domain false) (Rows.fnExactStillColumnSpec.post enc Try.prog Try.f9 false true false false) := by
  refine returnsInHanded_of_change (C := Try.checked) Try.own started (by kernel_rfl) Try.func9
    (ChangeSpec.witness6 (enc := enc) (C := Try.checked) false ⟨#[], #[.float .f32 0, .float .f32 0], []⟩ 8 (by kernel_rfl) (by kernel_rfl) (by kernel_rfl) (by kernel_rfl)) ?_
  intro W base args ds gs before hval hW _ _
  refine contract (P := Try.prog) (fn := Try.f9) Try.mixed Try.laidOut Try.func9 (by kernel_rfl) (by kernel_rfl) (by kernel_rfl) (by kernel_rfl) (t0 := 4) (by kernel_rfl) (by kernel_rfl) rfl ?_ ?_ W base args ds gs before hval hW
  · intro ds hd
    have hp : Try.f9.params.toList = [28, 28] := by kernel_rfl
    rw [hp] at hd
    match ds, hd with
    | [d1, d2], _ => rfl
  · intro xs has
    have hp : Try.f9.params.toList = [28, 28] := by kernel_rfl
    rw [hp] at has
    match xs, has with
    | [a, b], ⟨ha, hb, _⟩ =>
      unfold Typed at ha hb
      rw [flat28] at ha hb
      obtain ⟨s1, e1, ha⟩ := ha
      obtain ⟨s2, e2, hb⟩ := hb
      cases e1
      cases e2
      obtain ⟨u, rfl, hu1, hu2⟩ := ha
      obtain ⟨v, rfl, hv1, hv2⟩ := hb
      exact ⟨_, _, _, call9 u v hv2 hv1⟩
theorem x_holds : Rows.FnExactStillColumnSaid :=
  OpenClaim.holds_of_wide 9 Try.f9 rfl rfl rfl rfl rfl rfl rfl ⟨rfl, rfl, rfl, rfl, rfl⟩ rfl rfl rfl rfl rfl (by kernel_rfl) Try.func9 (by kernel_rfl)
    (of_decide_eq_true (by kernel_rfl)) (by unfold Func.isWrapper; first | (rw [if_pos (by decide +kernel)]; kernel_rfl) | (rw [if_neg (by decide +kernel)]; exact ⟨rfl, rfl⟩))
    (fun os started H enc _ => x_lifted os started H enc)
end Go.Proofs.Ytdjllbkfbmdlfaa
