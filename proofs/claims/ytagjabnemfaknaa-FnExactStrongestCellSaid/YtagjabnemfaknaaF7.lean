/-
  The law 'FnExactStrongestCell' returns true at every input: the program's two answers for the strongest cell are the same.
-/
import Derived.Test.YtagjabnemfaknaaF4
import Derived.Test.YtagjabnemfaknaaF6
import Derived.Test.YtagjabnemfaknaaRows
namespace Go.Proofs.Ytagjabnemfaknaa
open Go Go.AE Go.ChangeShapes Go.WideShapes Go.ChangeAt Go.RowKit
set_option maxRecDepth 100000
theorem x_lifted (os : Os) (started : os.Started) (H : Type) (enc : TypeId × Value → H) :
    ReturnsInHanded {} Try.checked os 5 .any (Rows.fnExactStrongestCellSpec.pre6 enc Try.prog Try.f5 Rows.fnExactStrongestCellRow.domain false) (Rows.fnExactStrongestCellSpec.post enc Try.prog Try.f5 false true false false) := by
  refine returnsInHanded_of_change (C := Try.checked) Try.own started (by kernel_rfl) Try.func5
    (ChangeSpec.witness6 (enc := enc) (C := Try.checked) false ⟨#[], #[.slice none 0 0], []⟩ 8 (by kernel_rfl) (by kernel_rfl) (by kernel_rfl) (by kernel_rfl)) ?_
  intro W base args ds gs before hval hW _ _
  refine contractS (P := Try.prog) (fn := Try.f5) Try.mixed Try.laidOut Try.func5 (by kernel_rfl) (by kernel_rfl) (by kernel_rfl) (by kernel_rfl) (t0 := 4) (by kernel_rfl) (by kernel_rfl) rfl ?_ ?_ W base args ds gs before hval hW
  · intro ds hd
    have hp : Try.f5.params.toList = [30] := by kernel_rfl
    rw [hp] at hd
    match ds, hd with
    | [d], _ => rfl
  · intro xs R has
    have hp : Try.f5.params.toList = [30] := by kernel_rfl
    rw [hp] at has
    obtain ⟨r, v, rfl, rfl, hv⟩ := typed1 has
    obtain ⟨oa, n, c, a, b, p, s, rfl, hn, ho, hc⟩ := map_of hv
    exact ⟨_, _, _, call5 (R := [r]) hn ho rfl hc⟩
theorem x_holds : Rows.FnExactStrongestCellSaid :=
  OpenClaim.holds_of_wide 5 Try.f5 rfl rfl rfl rfl rfl rfl rfl ⟨rfl, rfl, rfl, rfl, rfl⟩ rfl rfl rfl rfl rfl (by kernel_rfl) Try.func5 (by kernel_rfl)
    (of_decide_eq_true (by kernel_rfl)) (by unfold Func.isWrapper; first | (rw [if_pos (by decide +kernel)]; kernel_rfl) | (rw [if_neg (by decide +kernel)]; exact ⟨rfl, rfl⟩))
    (fun os started H enc _ => x_lifted os started H enc)
end Go.Proofs.Ytagjabnemfaknaa
