/-
  The law 'FnExactEchoOf' returns true at every input: the program's two echoes of droplets are the same.
-/
import Derived.Test.YtagjabnemfaknaaD3
import Derived.Test.YtagjabnemfaknaaAeF
import Derived.Test.YtagjabnemfaknaaRows
namespace Go.Proofs.Ytagjabnemfaknaa
open Go Go.AE Go.ChangeShapes Go.WideShapes Go.ChangeAt Go.RowKit
set_option maxRecDepth 100000
theorem Try.own : ownKnob Try.prog.godebug = none := by kernel_rfl
theorem Try.laidOut : laidOutB Try.prog = true := by kernel_rfl
theorem Try.mixed : Try.prog.follows .mixedOrders = true := by kernel_rfl
theorem flat54 : flatT Try.prog 54 = some (true, List.replicate 20 (.f .f32)) := by kernel_rfl
def fbitsOf (l : List Value) (i : Nat) : Nat := match l[i]? with
  | some (.float _ b) => b
  | _ => 0
theorem x_lifted (os : Os) (started : os.Started) (H : Type) (enc : TypeId × Value → H) :
    ReturnsInHanded {} Try.checked os 8 .any (Rows.fnExactEchoOfSpec.pre6 enc Try.prog Try.f8 Rows.fnExactEchoOfRow.domain false) (Rows.fnExactEchoOfSpec.post enc Try.prog Try.f8 false true false false) := by
  refine returnsInHanded_of_change (C := Try.checked) Try.own started (by kernel_rfl) Try.func8
    (ChangeSpec.witness6 (enc := enc) (C := Try.checked) false ⟨#[], #[.agg (List.replicate 20 (Value.float .f32 0)).toArray], []⟩ 8 (by kernel_rfl) (by kernel_rfl) (by kernel_rfl) (by kernel_rfl)) ?_
  intro W base args ds gs before hval hW _ _
  refine contract (P := Try.prog) (fn := Try.f8) Try.mixed Try.laidOut Try.func8 (by kernel_rfl) (by kernel_rfl) (by kernel_rfl) (by kernel_rfl) (t0 := 4) (by kernel_rfl) (by kernel_rfl) rfl ?_ ?_ W base args ds gs before hval hW
  · intro ds hd
    have hp : Try.f8.params.toList = [54] := by kernel_rfl
    rw [hp] at hd
    match ds, hd with
    | [d], _ => rfl
  · intro xs has
    have hp : Try.f8.params.toList = [54] := by kernel_rfl
    rw [hp] at has
    match xs, has with
    | [a], ⟨ha, _⟩ =>
      unfold Typed at ha
      rw [flat54] at ha
      obtain ⟨l, rfl, hl⟩ := ha
      have hx : Fl l 0 20 (fbitsOf l) := fun i hi => by
        rw [Nat.zero_add]
        obtain ⟨w, hw, hok⟩ := hl.get (i := i) (b := .f .f32) (by rw [List.getElem?_replicate, if_pos hi])
        obtain ⟨b, rfl, hc, hlt⟩ := hok
        have : fbitsOf l i = b := by unfold fbitsOf; rw [hw]
        rw [this]
        exact ⟨hw, hlt, hc⟩
      exact ⟨_, _, _, call8 (by rw [hl.length]; simp) hx⟩
theorem x_holds : Rows.FnExactEchoOfSaid :=
  OpenClaim.holds_of_wide 8 Try.f8 rfl rfl rfl rfl rfl rfl rfl ⟨rfl, rfl, rfl, rfl, rfl⟩ rfl rfl rfl rfl rfl (by kernel_rfl) Try.func8 (by kernel_rfl)
    (of_decide_eq_true (by kernel_rfl)) (by unfold Func.isWrapper; first | (rw [if_pos (by decide +kernel)]; kernel_rfl) | (rw [if_neg (by decide +kernel)]; exact ⟨rfl, rfl⟩))
    (fun os started H enc _ => x_lifted os started H enc)
end Go.Proofs.Ytagjabnemfaknaa
