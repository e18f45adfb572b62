/-
  No cell of these rows narrows 'for every input' (looked for: loops, veiled, ifaces, maps, wideKeys, modest, calm, conditions, laid).
  DERIVED. THE GIVEN ROWS OF THIS SEAT. 6 by the template 'for every input the law returns true; each argument reads behind the call as it read before'; 0 by the template 'total and deterministic' (their statements: YtagjabnemfaknaaTotals.lean).
  GIVEN WITH THE SEED: the statements are not yours to turn. If you find one false, say at which input.
  Laid BY PROGRAM, IN A SANDBOX (cutbox-rows.mjs): the forced cells as the released guide's own fill.sh prints them over the translation 90e46aa5ccbbe8f2… (all of the seat's roots in one cut). By AI agents, Wed Nov 11 2026. No macro, syntax, notation, axiom, sorry.
-/
import Derived.Test.YtagjabnemfaknaaChecked
import GoSem.Claim
import GoSem.ClaimJoined
import GoSem.ClaimMapViews
import Derived.JoinedTies
import Derived.KernelRfl
namespace Go.Proofs.Ytagjabnemfaknaa
/- THE CELL 'sum', in the pinned program and in every row, IS THE sha256 OF THE DUMP (.gsa) THAT YtagjabnemfaknaaProg.lean LOADS. Nothing in Lean hashes anything: it is a label: what it is worth is what the hold of that sum in a sandbox is worth. -/
noncomputable def Try.pinned : Pinned := { name := "ytagjabnemfaknaa", sum := "90e46aa5ccbbe8f20871496bcd79f580003de28deae6dff57ccffe7e208c0d7e", checked := Try.checked }
namespace Rows
def none {H : Type} : Left H := { results := [], args := [] }

/-- 'laws.FnExactUnfoldSpeeds': WHATEVER THE INPUT: true; the input reads as it did. -/
def fnExactUnfoldSpeedsSpec : ChangeSpec := { name := "fnExactUnfoldSpeeds", fn := fun _ => fun
  | [d1, d2] => { results := [.lit (.bool true)], args := [d1, d2] }
  | _ => none }
def fnExactUnfoldSpeedsRow : OpenClaim := { program := "ytagjabnemfaknaa", sum := "90e46aa5ccbbe8f20871496bcd79f580003de28deae6dff57ccffe7e208c0d7e", func := "loop.example/g01224/laws.FnExactUnfoldSpeeds", spec := "fnExactUnfoldSpeeds", inPlace := ["math.RoundToEven"], apart := false }
def FnExactUnfoldSpeedsSaid : Prop := fnExactUnfoldSpeedsRow.holds Try.pinned (OpenSpec.ofChange fnExactUnfoldSpeedsSpec)

/-- ITS FALSE NEIGHBOUR: 'it returns false'. Refute it at one input. -/
def fnExactUnfoldSpeedsWrong : ChangeSpec := { name := "fnExactUnfoldSpeeds", fn := fun _ => fun
  | [d1, d2] => { results := [.lit (.bool false)], args := [d1, d2] }
  | _ => none }
def FnExactUnfoldSpeedsWrongFalsely : Prop := fnExactUnfoldSpeedsRow.holds Try.pinned (OpenSpec.ofChange fnExactUnfoldSpeedsWrong)

/-- 'laws.FnExactValidEchoMap': WHATEVER THE INPUT: true; the input reads as it did. -/
def fnExactValidEchoMapSpec : ChangeSpec := { name := "fnExactValidEchoMap", fn := fun _ => fun
  | [d] => { results := [.lit (.bool true)], args := [d] }
  | _ => none }
def fnExactValidEchoMapRow : OpenClaim := { program := "ytagjabnemfaknaa", sum := "90e46aa5ccbbe8f20871496bcd79f580003de28deae6dff57ccffe7e208c0d7e", func := "loop.example/g01224/laws.FnExactValidEchoMap", spec := "fnExactValidEchoMap", inPlace := ["math.Float32bits"], apart := false }
def FnExactValidEchoMapSaid : Prop := fnExactValidEchoMapRow.holds Try.pinned (OpenSpec.ofChange fnExactValidEchoMapSpec)

/-- ITS FALSE NEIGHBOUR: 'it returns false'. Refute it at one input. -/
def fnExactValidEchoMapWrong : ChangeSpec := { name := "fnExactValidEchoMap", fn := fun _ => fun
  | [d] => { results := [.lit (.bool false)], args := [d] }
  | _ => none }
def FnExactValidEchoMapWrongFalsely : Prop := fnExactValidEchoMapRow.holds Try.pinned (OpenSpec.ofChange fnExactValidEchoMapWrong)

/-- 'laws.FnExactStrongestCell': WHATEVER THE INPUT: true; the input reads as it did. -/
def fnExactStrongestCellSpec : ChangeSpec := { name := "fnExactStrongestCell", fn := fun _ => fun
  | [d] => { results := [.lit (.bool true)], args := [d] }
  | _ => none }
def fnExactStrongestCellRow : OpenClaim := { program := "ytagjabnemfaknaa", sum := "90e46aa5ccbbe8f20871496bcd79f580003de28deae6dff57ccffe7e208c0d7e", func := "loop.example/g01224/laws.FnExactStrongestCell", spec := "fnExactStrongestCell", inPlace := ["math.Float32bits"], apart := false }
def FnExactStrongestCellSaid : Prop := fnExactStrongestCellRow.holds Try.pinned (OpenSpec.ofChange fnExactStrongestCellSpec)

/-- ITS FALSE NEIGHBOUR: 'it returns false'. Refute it at one input. -/
def fnExactStrongestCellWrong : ChangeSpec := { name := "fnExactStrongestCell", fn := fun _ => fun
  | [d] => { results := [.lit (.bool false)], args := [d] }
  | _ => none }
def FnExactStrongestCellWrongFalsely : Prop := fnExactStrongestCellRow.holds Try.pinned (OpenSpec.ofChange fnExactStrongestCellWrong)

/-- 'laws.FnExactPulsesOf': WHATEVER THE INPUT: true; the input reads as it did. -/
def fnExactPulsesOfSpec : ChangeSpec := { name := "fnExactPulsesOf", fn := fun _ => fun
  | [d1, d2, d3, d4] => { results := [.lit (.bool true)], args := [d1, d2, d3, d4] }
  | _ => none }
def fnExactPulsesOfRow : OpenClaim := { program := "ytagjabnemfaknaa", sum := "90e46aa5ccbbe8f20871496bcd79f580003de28deae6dff57ccffe7e208c0d7e", func := "loop.example/g01224/laws.FnExactPulsesOf", spec := "fnExactPulsesOf", inPlace := ["math.Float32bits", "math.Float64frombits", "math.RoundToEven", "math.Float32frombits"], unfollowed := true, recurses := true, apart := false }
def FnExactPulsesOfSaid : Prop := fnExactPulsesOfRow.holds Try.pinned (OpenSpec.ofChange fnExactPulsesOfSpec)

/-- ITS FALSE NEIGHBOUR: 'it returns false'. Refute it at one input. -/
def fnExactPulsesOfWrong : ChangeSpec := { name := "fnExactPulsesOf", fn := fun _ => fun
  | [d1, d2, d3, d4] => { results := [.lit (.bool false)], args := [d1, d2, d3, d4] }
  | _ => none }
def FnExactPulsesOfWrongFalsely : Prop := fnExactPulsesOfRow.holds Try.pinned (OpenSpec.ofChange fnExactPulsesOfWrong)

/-- 'laws.FnExactEchoAt': WHATEVER THE INPUT: true; the input reads as it did. -/
def fnExactEchoAtSpec : ChangeSpec := { name := "fnExactEchoAt", fn := fun _ => fun
  | [d1, d2] => { results := [.lit (.bool true)], args := [d1, d2] }
  | _ => none }
def fnExactEchoAtRow : OpenClaim := { program := "ytagjabnemfaknaa", sum := "90e46aa5ccbbe8f20871496bcd79f580003de28deae6dff57ccffe7e208c0d7e", func := "loop.example/g01224/laws.FnExactEchoAt", spec := "fnExactEchoAt", inPlace := ["math.Float32bits"], unfollowed := true, recurses := true, apart := false }
def FnExactEchoAtSaid : Prop := fnExactEchoAtRow.holds Try.pinned (OpenSpec.ofChange fnExactEchoAtSpec)

/-- ITS FALSE NEIGHBOUR: 'it returns false'. Refute it at one input. -/
def fnExactEchoAtWrong : ChangeSpec := { name := "fnExactEchoAt", fn := fun _ => fun
  | [d1, d2] => { results := [.lit (.bool false)], args := [d1, d2] }
  | _ => none }
def FnExactEchoAtWrongFalsely : Prop := fnExactEchoAtRow.holds Try.pinned (OpenSpec.ofChange fnExactEchoAtWrong)

/-- 'laws.FnExactEchoOf': WHATEVER THE INPUT: true; the input reads as it did. -/
def fnExactEchoOfSpec : ChangeSpec := { name := "fnExactEchoOf", fn := fun _ => fun
  | [d] => { results := [.lit (.bool true)], args := [d] }
  | _ => none }
def fnExactEchoOfRow : OpenClaim := { program := "ytagjabnemfaknaa", sum := "90e46aa5ccbbe8f20871496bcd79f580003de28deae6dff57ccffe7e208c0d7e", func := "loop.example/g01224/laws.FnExactEchoOf", spec := "fnExactEchoOf", inPlace := ["math.Float32bits", "math.sqrt"], apart := false }
def FnExactEchoOfSaid : Prop := fnExactEchoOfRow.holds Try.pinned (OpenSpec.ofChange fnExactEchoOfSpec)

/-- ITS FALSE NEIGHBOUR: 'it returns false'. Refute it at one input. -/
def fnExactEchoOfWrong : ChangeSpec := { name := "fnExactEchoOf", fn := fun _ => fun
  | [d] => { results := [.lit (.bool false)], args := [d] }
  | _ => none }
def FnExactEchoOfWrongFalsely : Prop := fnExactEchoOfRow.holds Try.pinned (OpenSpec.ofChange fnExactEchoOfWrong)

/- THE SECOND FORM. 'bulk': how many values and letters a reading holds, each counted each time it is reached (what is shared counts as often as it is met; a slice's spare places count too). A statement '..UptoSaid' is the law's where the arguments, and the package variables that the reading takes, are together of bulk at most 1048576: NARROWER than '..Said'. Prove '..Said' where nothing that the law and all that it calls make is longer than what came in: it says more and counts as full. Else prove '..UptoSaid'. A law counts once. -/
mutual
def uptoBulk {H : Type} : DataW H → Nat
  | .lit (.string bytes) => bytes.length + 1
  | .lit _ => 1
  | .nil => 1
  | .ptr d => uptoBulk d + 1
  | .slice elems spare => uptoBulkAll elems + uptoBulkAll spare + 1
  | .agg parts => uptoBulkAll parts + 1
  | .iface _ d => uptoBulk d + 1
  | .map entries => uptoBulkEntries entries + 1
  | .held _ => 1
def uptoBulkAll {H : Type} : List (DataW H) → Nat
  | [] => 0
  | d :: r => uptoBulk d + uptoBulkAll r
def uptoBulkEntries {H : Type} : List (Lit × DataW H) → Nat
  | [] => 0
  | x :: r => uptoBulkEntry x + uptoBulkEntries r
def uptoBulkEntry {H : Type} : Lit × DataW H → Nat
  | (.string bytes, d) => bytes.length + uptoBulk d + 1
  | (_, d) => uptoBulk d + 1
 end
def uptoSmall : (H : Type) → List (DataW H) → Bool := fun _ ds => decide (uptoBulkAll ds ≤ 1048576)
def OpenSpec.upto (s : _root_.Go.ChangeSpec) : _root_.Go.OpenSpec := { _root_.Go.OpenSpec.ofChange s with cond := some uptoSmall }

/-- 'laws.FnExactUnfoldSpeeds', WHERE WHAT IT READS IS OF BULK AT MOST 1048576: true; the input reads as it did. -/
def fnExactUnfoldSpeedsUptoRow : OpenClaim := { program := "ytagjabnemfaknaa", sum := "90e46aa5ccbbe8f20871496bcd79f580003de28deae6dff57ccffe7e208c0d7e", func := "loop.example/g01224/laws.FnExactUnfoldSpeeds", spec := "fnExactUnfoldSpeeds", inPlace := ["math.RoundToEven"], apart := false, narrowed := true }
def FnExactUnfoldSpeedsUptoSaid : Prop := fnExactUnfoldSpeedsUptoRow.holds Try.pinned (OpenSpec.upto fnExactUnfoldSpeedsSpec)

/-- 'laws.FnExactValidEchoMap', WHERE WHAT IT READS IS OF BULK AT MOST 1048576: true; the input reads as it did. -/
def fnExactValidEchoMapUptoRow : OpenClaim := { program := "ytagjabnemfaknaa", sum := "90e46aa5ccbbe8f20871496bcd79f580003de28deae6dff57ccffe7e208c0d7e", func := "loop.example/g01224/laws.FnExactValidEchoMap", spec := "fnExactValidEchoMap", inPlace := ["math.Float32bits"], apart := false, narrowed := true }
def FnExactValidEchoMapUptoSaid : Prop := fnExactValidEchoMapUptoRow.holds Try.pinned (OpenSpec.upto fnExactValidEchoMapSpec)

/-- 'laws.FnExactStrongestCell', WHERE WHAT IT READS IS OF BULK AT MOST 1048576: true; the input reads as it did. -/
def fnExactStrongestCellUptoRow : OpenClaim := { program := "ytagjabnemfaknaa", sum := "90e46aa5ccbbe8f20871496bcd79f580003de28deae6dff57ccffe7e208c0d7e", func := "loop.example/g01224/laws.FnExactStrongestCell", spec := "fnExactStrongestCell", inPlace := ["math.Float32bits"], apart := false, narrowed := true }
def FnExactStrongestCellUptoSaid : Prop := fnExactStrongestCellUptoRow.holds Try.pinned (OpenSpec.upto fnExactStrongestCellSpec)

/-- 'laws.FnExactPulsesOf', WHERE WHAT IT READS IS OF BULK AT MOST 1048576: true; the input reads as it did. -/
def fnExactPulsesOfUptoRow : OpenClaim := { program := "ytagjabnemfaknaa", sum := "90e46aa5ccbbe8f20871496bcd79f580003de28deae6dff57ccffe7e208c0d7e", func := "loop.example/g01224/laws.FnExactPulsesOf", spec := "fnExactPulsesOf", inPlace := ["math.Float32bits", "math.Float64frombits", "math.RoundToEven", "math.Float32frombits"], unfollowed := true, recurses := true, apart := false, narrowed := true }
def FnExactPulsesOfUptoSaid : Prop := fnExactPulsesOfUptoRow.holds Try.pinned (OpenSpec.upto fnExactPulsesOfSpec)

/-- 'laws.FnExactEchoAt', WHERE WHAT IT READS IS OF BULK AT MOST 1048576: true; the input reads as it did. -/
def fnExactEchoAtUptoRow : OpenClaim := { program := "ytagjabnemfaknaa", sum := "90e46aa5ccbbe8f20871496bcd79f580003de28deae6dff57ccffe7e208c0d7e", func := "loop.example/g01224/laws.FnExactEchoAt", spec := "fnExactEchoAt", inPlace := ["math.Float32bits"], unfollowed := true, recurses := true, apart := false, narrowed := true }
def FnExactEchoAtUptoSaid : Prop := fnExactEchoAtUptoRow.holds Try.pinned (OpenSpec.upto fnExactEchoAtSpec)

/-- 'laws.FnExactEchoOf', WHERE WHAT IT READS IS OF BULK AT MOST 1048576: true; the input reads as it did. -/
def fnExactEchoOfUptoRow : OpenClaim := { program := "ytagjabnemfaknaa", sum := "90e46aa5ccbbe8f20871496bcd79f580003de28deae6dff57ccffe7e208c0d7e", func := "loop.example/g01224/laws.FnExactEchoOf", spec := "fnExactEchoOf", inPlace := ["math.Float32bits", "math.sqrt"], apart := false, narrowed := true }
def FnExactEchoOfUptoSaid : Prop := fnExactEchoOfUptoRow.holds Try.pinned (OpenSpec.upto fnExactEchoOfSpec)

end Rows
end Go.Proofs.Ytagjabnemfaknaa
