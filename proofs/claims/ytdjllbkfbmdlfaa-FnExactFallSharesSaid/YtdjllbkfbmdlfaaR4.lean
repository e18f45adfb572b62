/-
  The law 'FnExactFallShares' returns true: the program's two tables of the shares that fall are the same.
-/
import Derived.Test.YtdjllbkfbmdlfaaAeG
import Derived.Test.YtdjllbkfbmdlfaaRows
import Derived.ProofKit
namespace Go.Proofs.Ytdjllbkfbmdlfaa
open Go Go.AE Go.ChangeShapes Go.WideShapes Go.ChangeAt Go.RowKit
set_option maxRecDepth 100000
theorem Try.own : ownKnob Try.prog.godebug = none := by kernel_rfl
theorem Try.laidOut : laidOutB Try.prog = true := by kernel_rfl
theorem Try.mixed : Try.prog.follows .mixedOrders = true := by kernel_rfl
/-- The answer is true. -/
def isT (o : Option (Value × H × Nat × Nat)) : Bool := match o with
  | some (.bool true, _) => true
  | _ => false
theorem isT_some {o : Option (Value × H × Nat × Nat)} (h : isT o = true) : ∃ h' pw sw, o = some (.bool true, h', pw, sw) := by
  unfold isT at h
  split at h
  · rename_i x
    exact ⟨x.1, x.2.1, x.2.2, rfl⟩
  · cases h
theorem shares : isT ((ev (trFn Try.prog) [] 120).2 4 [] []) = true := by kernel_rfl
theorem x_lifted (os : Os) (started : os.Started) (H : Type) (enc : TypeId × Value → H) :
    ReturnsInHanded {} Try.checked os 4 .any (Rows.fnExactFallSharesSpec.pre6 enc Try.prog Try.f4 Rows.fnExactFallSharesRow.domain false) (Rows.fnExactFallSharesSpec.post enc Try.prog Try.f4 false true false false) := by
  refine returnsInHanded_of_change (C := Try.checked) Try.own started (by kernel_rfl) Try.func4
    (ChangeSpec.witness6 (enc := enc) (C := Try.checked) false ⟨#[], #[], []⟩ 8 (by kernel_rfl) (by kernel_rfl) (by kernel_rfl) (by kernel_rfl)) ?_
  intro W base args ds gs before hval hW _ _
  refine contract (P := Try.prog) (fn := Try.f4) Try.mixed Try.laidOut Try.func4 (by kernel_rfl) (by kernel_rfl) (by kernel_rfl) (by kernel_rfl) (t0 := 4) (by kernel_rfl) (by kernel_rfl) rfl ?_ ?_ W base args ds gs before hval hW
  · intro ds hd
    have hp : Try.f4.params.toList = [] := by kernel_rfl
    rw [hp] at hd
    match ds, hd with
    | [], _ => rfl
  · intro xs has
    have hp : Try.f4.params.toList = [] := by kernel_rfl
    rw [hp] at has
    match xs, has with
    | [], _ =>
      obtain ⟨h', pw, sw, he⟩ := isT_some shares
      exact ⟨h', pw, sw, EF_of 120 _ _ _ _ he⟩
theorem x_holds : Rows.FnExactFallSharesSaid :=
  OpenClaim.holds_of_wide 4 Try.f4 rfl rfl rfl rfl rfl rfl rfl ⟨rfl, rfl, rfl, rfl, rfl⟩ rfl rfl rfl rfl rfl (by kernel_rfl) Try.func4 (by kernel_rfl)
    (of_decide_eq_true (by kernel_rfl)) (by unfold Func.isWrapper; first | (rw [if_pos (by decide +kernel)]; kernel_rfl) | (rw [if_neg (by decide +kernel)]; exact ⟨rfl, rfl⟩))
    (fun os started H enc _ => x_lifted os started H enc)
end Go.Proofs.Ytdjllbkfbmdlfaa
