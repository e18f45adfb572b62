/-
  The law 'FnExactValidAct' returns true at every input: the program's two tests of an act come to the same.
-/
import Derived.Test.YtdjllbkfbmdlfaaQ1
import Derived.Test.YtdjllbkfbmdlfaaRows
namespace Go.Proofs.Ytdjllbkfbmdlfaa
open Go Go.AE Go.ChangeShapes Go.WideShapes Go.ChangeAt Go.RowKit
set_option maxRecDepth 100000
theorem flat34 : flatT Try.prog 34 = some (true, [.i .i64, .i .i64, .f .f32, .f .f32]) := by kernel_rfl
theorem x_lifted (os : Os) (started : os.Started) (H : Type) (enc : TypeId × Value → H) :
    ReturnsInHanded {} Try.checked os 5 .any (Rows.fnExactValidActSpec.pre6 enc Try.prog Try.f5 Rows.fnExactValidActRow.domain false) (Rows.fnExactValidActSpec.post enc Try.prog Try.f5 false true false false) := by
  refine returnsInHanded_of_change (C := Try.checked) Try.own started (by kernel_rfl) Try.func5
    (ChangeSpec.witness6 (enc := enc) (C := Try.checked) false ⟨#[], #[.agg #[.int .i64 0, .int .i64 0, .float .f32 0, .float .f32 0]], []⟩ 8 (by kernel_rfl) (by kernel_rfl) (by kernel_rfl) (by kernel_rfl)) ?_
  intro W base args ds gs before hval hW _ _
  refine contract (P := Try.prog) (fn := Try.f5) Try.mixed Try.laidOut Try.func5 (by kernel_rfl) (by kernel_rfl) (by kernel_rfl) (by kernel_rfl) (t0 := 4) (by kernel_rfl) (by kernel_rfl) rfl ?_ ?_ W base args ds gs before hval hW
  · intro ds hd
    have hp : Try.f5.params.toList = [34] := by kernel_rfl
    rw [hp] at hd
    match ds, hd with
    | [d], _ => rfl
  · intro xs has
    have hp : Try.f5.params.toList = [34] := by kernel_rfl
    rw [hp] at has
    match xs, has with
    | [a], ⟨ha, _⟩ =>
      unfold Typed at ha
      rw [flat34] at ha
      obtain ⟨l, rfl, hl⟩ := ha
      cases hl with
      | cons h1 hl =>
        cases hl with
        | cons h2 hl =>
          cases hl with
          | cons h3 hl =>
            cases hl with
            | cons h4 hl =>
              cases hl
              obtain ⟨k, rfl, _⟩ := h1
              obtain ⟨c, rfl, _⟩ := h2
              obtain ⟨u, rfl, hu1, hu2⟩ := h3
              obtain ⟨v, rfl, hv1, hv2⟩ := h4
              exact ⟨_, _, _, call5 hu2 hv2 hu1 hv1⟩
theorem x_holds : Rows.FnExactValidActSaid :=
  OpenClaim.holds_of_wide 5 Try.f5 rfl rfl rfl rfl rfl rfl rfl ⟨rfl, rfl, rfl, rfl, rfl⟩ rfl rfl rfl rfl rfl (by kernel_rfl) Try.func5 (by kernel_rfl)
    (of_decide_eq_true (by kernel_rfl)) (by unfold Func.isWrapper; first | (rw [if_pos (by decide +kernel)]; kernel_rfl) | (rw [if_neg (by decide +kernel)]; exact ⟨rfl, rfl⟩))
    (fun os started H enc _ => x_lifted os started H enc)
end Go.Proofs.Ytdjllbkfbmdlfaa
