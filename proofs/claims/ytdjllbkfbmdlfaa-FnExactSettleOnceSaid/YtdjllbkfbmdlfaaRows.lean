/-
  No cell of these rows narrows 'for every input' (looked for: loops, veiled, ifaces, maps, wideKeys, modest, calm, conditions, laid).
  DERIVED. THE GIVEN ROWS OF THIS SEAT. 11 by the template 'for every input the law returns true; each argument reads behind the call as it read before'; 0 by the template 'total and deterministic' (their statements: YtdjllbkfbmdlfaaTotals.lean).
  GIVEN WITH THE SEED: the statements are not yours to turn. If you find one false, say at which input.
  Laid BY PROGRAM, IN A SANDBOX (cutbox-rows.mjs): the forced cells as the released guide's own fill.sh prints them over the translation 708f24a416820b39… (all of the seat's roots in one cut). By AI agents, Wed Nov 11 2026. No macro, syntax, notation, axiom, sorry.
-/
import Derived.Test.YtdjllbkfbmdlfaaChecked
import GoSem.Claim
import GoSem.ClaimJoined
import GoSem.ClaimMapViews
import Derived.JoinedTies
import Derived.KernelRfl
namespace Go.Proofs.Ytdjllbkfbmdlfaa
/- THE CELL 'sum', in the pinned program and in every row, IS THE sha256 OF THE DUMP (.gsa) THAT YtdjllbkfbmdlfaaProg.lean LOADS. Nothing in Lean hashes anything: it is a label: what it is worth is what the hold of that sum in a sandbox is worth. -/
noncomputable def Try.pinned : Pinned := { name := "ytdjllbkfbmdlfaa", sum := "708f24a416820b39587fb9f0f54c69dbedb072095bf22b84a780866806d08daa", checked := Try.checked }
namespace Rows
def none {H : Type} : Left H := { results := [], args := [] }

/-- 'laws.FnExactValidDeed': WHATEVER THE INPUT: true; the input reads as it did. -/
def fnExactValidDeedSpec : ChangeSpec := { name := "fnExactValidDeed", fn := fun _ => fun
  | [d] => { results := [.lit (.bool true)], args := [d] }
  | _ => none }
def fnExactValidDeedRow : OpenClaim := { program := "ytdjllbkfbmdlfaa", sum := "708f24a416820b39587fb9f0f54c69dbedb072095bf22b84a780866806d08daa", func := "loop.example/g01224/laws.FnExactValidDeed", spec := "fnExactValidDeed", apart := false }
def FnExactValidDeedSaid : Prop := fnExactValidDeedRow.holds Try.pinned (OpenSpec.ofChange fnExactValidDeedSpec)

/-- ITS FALSE NEIGHBOUR: 'it returns false'. Refute it at one input. -/
def fnExactValidDeedWrong : ChangeSpec := { name := "fnExactValidDeed", fn := fun _ => fun
  | [d] => { results := [.lit (.bool false)], args := [d] }
  | _ => none }
def FnExactValidDeedWrongFalsely : Prop := fnExactValidDeedRow.holds Try.pinned (OpenSpec.ofChange fnExactValidDeedWrong)

/-- 'laws.FnExactFallShares': WHATEVER THE INPUT: true; the input reads as it did. -/
def fnExactFallSharesSpec : ChangeSpec := { name := "fnExactFallShares", fn := fun _ => fun
  | [] => { results := [.lit (.bool true)], args := [] }
  | _ => none }
def fnExactFallSharesRow : OpenClaim := { program := "ytdjllbkfbmdlfaa", sum := "708f24a416820b39587fb9f0f54c69dbedb072095bf22b84a780866806d08daa", func := "loop.example/g01224/laws.FnExactFallShares", spec := "fnExactFallShares", apart := false }
def FnExactFallSharesSaid : Prop := fnExactFallSharesRow.holds Try.pinned (OpenSpec.ofChange fnExactFallSharesSpec)

/-- ITS FALSE NEIGHBOUR: 'it returns false'. Refute it at one input. -/
def fnExactFallSharesWrong : ChangeSpec := { name := "fnExactFallShares", fn := fun _ => fun
  | [] => { results := [.lit (.bool false)], args := [] }
  | _ => none }
def FnExactFallSharesWrongFalsely : Prop := fnExactFallSharesRow.holds Try.pinned (OpenSpec.ofChange fnExactFallSharesWrong)

/-- 'laws.FnExactValidAct': WHATEVER THE INPUT: true; the input reads as it did. -/
def fnExactValidActSpec : ChangeSpec := { name := "fnExactValidAct", fn := fun _ => fun
  | [d] => { results := [.lit (.bool true)], args := [d] }
  | _ => none }
def fnExactValidActRow : OpenClaim := { program := "ytdjllbkfbmdlfaa", sum := "708f24a416820b39587fb9f0f54c69dbedb072095bf22b84a780866806d08daa", func := "loop.example/g01224/laws.FnExactValidAct", spec := "fnExactValidAct", inPlace := ["math.Float32bits", "math.RoundToEven"], apart := false }
def FnExactValidActSaid : Prop := fnExactValidActRow.holds Try.pinned (OpenSpec.ofChange fnExactValidActSpec)

/-- ITS FALSE NEIGHBOUR: 'it returns false'. Refute it at one input. -/
def fnExactValidActWrong : ChangeSpec := { name := "fnExactValidAct", fn := fun _ => fun
  | [d] => { results := [.lit (.bool false)], args := [d] }
  | _ => none }
def FnExactValidActWrongFalsely : Prop := fnExactValidActRow.holds Try.pinned (OpenSpec.ofChange fnExactValidActWrong)

/-- 'laws.FnExactSameColumn': WHATEVER THE INPUT: true; the input reads as it did. -/
def fnExactSameColumnSpec : ChangeSpec := { name := "fnExactSameColumn", fn := fun _ => fun
  | [d1, d2] => { results := [.lit (.bool true)], args := [d1, d2] }
  | _ => none }
def fnExactSameColumnRow : OpenClaim := { program := "ytdjllbkfbmdlfaa", sum := "708f24a416820b39587fb9f0f54c69dbedb072095bf22b84a780866806d08daa", func := "loop.example/g01224/laws.FnExactSameColumn", spec := "fnExactSameColumn", inPlace := ["math.Float32bits"], apart := false }
def FnExactSameColumnSaid : Prop := fnExactSameColumnRow.holds Try.pinned (OpenSpec.ofChange fnExactSameColumnSpec)

/-- ITS FALSE NEIGHBOUR: 'it returns false'. Refute it at one input. -/
def fnExactSameColumnWrong : ChangeSpec := { name := "fnExactSameColumn", fn := fun _ => fun
  | [d1, d2] => { results := [.lit (.bool false)], args := [d1, d2] }
  | _ => none }
def FnExactSameColumnWrongFalsely : Prop := fnExactSameColumnRow.holds Try.pinned (OpenSpec.ofChange fnExactSameColumnWrong)

/-- 'laws.FnExactValidColumn': WHATEVER THE INPUT: true; the input reads as it did. -/
def fnExactValidColumnSpec : ChangeSpec := { name := "fnExactValidColumn", fn := fun _ => fun
  | [d] => { results := [.lit (.bool true)], args := [d] }
  | _ => none }
def fnExactValidColumnRow : OpenClaim := { program := "ytdjllbkfbmdlfaa", sum := "708f24a416820b39587fb9f0f54c69dbedb072095bf22b84a780866806d08daa", func := "loop.example/g01224/laws.FnExactValidColumn", spec := "fnExactValidColumn", inPlace := ["math.Float32bits"], apart := false }
def FnExactValidColumnSaid : Prop := fnExactValidColumnRow.holds Try.pinned (OpenSpec.ofChange fnExactValidColumnSpec)

/-- ITS FALSE NEIGHBOUR: 'it returns false'. Refute it at one input. -/
def fnExactValidColumnWrong : ChangeSpec := { name := "fnExactValidColumn", fn := fun _ => fun
  | [d] => { results := [.lit (.bool false)], args := [d] }
  | _ => none }
def FnExactValidColumnWrongFalsely : Prop := fnExactValidColumnRow.holds Try.pinned (OpenSpec.ofChange fnExactValidColumnWrong)

/-- 'laws.FnExactRainOf': WHATEVER THE INPUT: true; the input reads as it did. -/
def fnExactRainOfSpec : ChangeSpec := { name := "fnExactRainOf", fn := fun _ => fun
  | [d] => { results := [.lit (.bool true)], args := [d] }
  | _ => none }
def fnExactRainOfRow : OpenClaim := { program := "ytdjllbkfbmdlfaa", sum := "708f24a416820b39587fb9f0f54c69dbedb072095bf22b84a780866806d08daa", func := "loop.example/g01224/laws.FnExactRainOf", spec := "fnExactRainOf", inPlace := ["math.Float32bits"], apart := false }
def FnExactRainOfSaid : Prop := fnExactRainOfRow.holds Try.pinned (OpenSpec.ofChange fnExactRainOfSpec)

/-- ITS FALSE NEIGHBOUR: 'it returns false'. Refute it at one input. -/
def fnExactRainOfWrong : ChangeSpec := { name := "fnExactRainOf", fn := fun _ => fun
  | [d] => { results := [.lit (.bool false)], args := [d] }
  | _ => none }
def FnExactRainOfWrongFalsely : Prop := fnExactRainOfRow.holds Try.pinned (OpenSpec.ofChange fnExactRainOfWrong)

/-- 'laws.FnExactStillColumn': WHATEVER THE INPUT: true; the input reads as it did. -/
def fnExactStillColumnSpec : ChangeSpec := { name := "fnExactStillColumn", fn := fun _ => fun
  | [d1, d2] => { results := [.lit (.bool true)], args := [d1, d2] }
  | _ => none }
def fnExactStillColumnRow : OpenClaim := { program := "ytdjllbkfbmdlfaa", sum := "708f24a416820b39587fb9f0f54c69dbedb072095bf22b84a780866806d08daa", func := "loop.example/g01224/laws.FnExactStillColumn", spec := "fnExactStillColumn", inPlace := ["math.Float32bits"], apart := false }
def FnExactStillColumnSaid : Prop := fnExactStillColumnRow.holds Try.pinned (OpenSpec.ofChange fnExactStillColumnSpec)

/-- ITS FALSE NEIGHBOUR: 'it returns false'. Refute it at one input. -/
def fnExactStillColumnWrong : ChangeSpec := { name := "fnExactStillColumn", fn := fun _ => fun
  | [d1, d2] => { results := [.lit (.bool false)], args := [d1, d2] }
  | _ => none }
def FnExactStillColumnWrongFalsely : Prop := fnExactStillColumnRow.holds Try.pinned (OpenSpec.ofChange fnExactStillColumnWrong)

/-- 'laws.FnExactWaterOfColumn': WHATEVER THE INPUT: true; the input reads as it did. -/
def fnExactWaterOfColumnSpec : ChangeSpec := { name := "fnExactWaterOfColumn", fn := fun _ => fun
  | [d] => { results := [.lit (.bool true)], args := [d] }
  | _ => none }
def fnExactWaterOfColumnRow : OpenClaim := { program := "ytdjllbkfbmdlfaa", sum := "708f24a416820b39587fb9f0f54c69dbedb072095bf22b84a780866806d08daa", func := "loop.example/g01224/laws.FnExactWaterOfColumn", spec := "fnExactWaterOfColumn", inPlace := ["math.Float32bits"], apart := false }
def FnExactWaterOfColumnSaid : Prop := fnExactWaterOfColumnRow.holds Try.pinned (OpenSpec.ofChange fnExactWaterOfColumnSpec)

/-- ITS FALSE NEIGHBOUR: 'it returns false'. Refute it at one input. -/
def fnExactWaterOfColumnWrong : ChangeSpec := { name := "fnExactWaterOfColumn", fn := fun _ => fun
  | [d] => { results := [.lit (.bool false)], args := [d] }
  | _ => none }
def FnExactWaterOfColumnWrongFalsely : Prop := fnExactWaterOfColumnRow.holds Try.pinned (OpenSpec.ofChange fnExactWaterOfColumnWrong)

/-- 'laws.FnFalls': WHATEVER THE INPUT: true; the input reads as it did. -/
def fnFallsSpec : ChangeSpec := { name := "fnFalls", fn := fun _ => fun
  | [d1, d2] => { results := [.lit (.bool true)], args := [d1, d2] }
  | _ => none }
def fnFallsRow : OpenClaim := { program := "ytdjllbkfbmdlfaa", sum := "708f24a416820b39587fb9f0f54c69dbedb072095bf22b84a780866806d08daa", func := "loop.example/g01224/laws.FnFalls", spec := "fnFalls", inPlace := ["math.Float32bits"], apart := false }
def FnFallsSaid : Prop := fnFallsRow.holds Try.pinned (OpenSpec.ofChange fnFallsSpec)

/-- ITS FALSE NEIGHBOUR: 'it returns false'. Refute it at one input. -/
def fnFallsWrong : ChangeSpec := { name := "fnFalls", fn := fun _ => fun
  | [d1, d2] => { results := [.lit (.bool false)], args := [d1, d2] }
  | _ => none }
def FnFallsWrongFalsely : Prop := fnFallsRow.holds Try.pinned (OpenSpec.ofChange fnFallsWrong)

/-- 'laws.FnExactStirColumn': WHATEVER THE INPUT: true; the input reads as it did. -/
def fnExactStirColumnSpec : ChangeSpec := { name := "fnExactStirColumn", fn := fun _ => fun
  | [d1, d2] => { results := [.lit (.bool true)], args := [d1, d2] }
  | _ => none }
def fnExactStirColumnRow : OpenClaim := { program := "ytdjllbkfbmdlfaa", sum := "708f24a416820b39587fb9f0f54c69dbedb072095bf22b84a780866806d08daa", func := "loop.example/g01224/laws.FnExactStirColumn", spec := "fnExactStirColumn", inPlace := ["math.Float32bits"], apart := false }
def FnExactStirColumnSaid : Prop := fnExactStirColumnRow.holds Try.pinned (OpenSpec.ofChange fnExactStirColumnSpec)

/-- ITS FALSE NEIGHBOUR: 'it returns false'. Refute it at one input. -/
def fnExactStirColumnWrong : ChangeSpec := { name := "fnExactStirColumn", fn := fun _ => fun
  | [d1, d2] => { results := [.lit (.bool false)], args := [d1, d2] }
  | _ => none }
def FnExactStirColumnWrongFalsely : Prop := fnExactStirColumnRow.holds Try.pinned (OpenSpec.ofChange fnExactStirColumnWrong)

/-- 'laws.FnExactSettleOnce': WHATEVER THE INPUT: true; the input reads as it did. -/
def fnExactSettleOnceSpec : ChangeSpec := { name := "fnExactSettleOnce", fn := fun _ => fun
  | [d] => { results := [.lit (.bool true)], args := [d] }
  | _ => none }
def fnExactSettleOnceRow : OpenClaim := { program := "ytdjllbkfbmdlfaa", sum := "708f24a416820b39587fb9f0f54c69dbedb072095bf22b84a780866806d08daa", func := "loop.example/g01224/laws.FnExactSettleOnce", spec := "fnExactSettleOnce", inPlace := ["math.Float32bits"], apart := false }
def FnExactSettleOnceSaid : Prop := fnExactSettleOnceRow.holds Try.pinned (OpenSpec.ofChange fnExactSettleOnceSpec)

/-- ITS FALSE NEIGHBOUR: 'it returns false'. Refute it at one input. -/
def fnExactSettleOnceWrong : ChangeSpec := { name := "fnExactSettleOnce", fn := fun _ => fun
  | [d] => { results := [.lit (.bool false)], args := [d] }
  | _ => none }
def FnExactSettleOnceWrongFalsely : Prop := fnExactSettleOnceRow.holds Try.pinned (OpenSpec.ofChange fnExactSettleOnceWrong)

/- THE SECOND FORM. 'bulk': how many values and letters a reading holds, each counted each time it is reached (what is shared counts as often as it is met; a slice's spare places count too). A statement '..UptoSaid' is the law's where the arguments, and the package variables that the reading takes, are together of bulk at most 1048576: NARROWER than '..Said'. Prove '..Said' where nothing that the law and all that it calls make is longer than what came in: it says more and counts as full. Else prove '..UptoSaid'. A law counts once. -/
mutual
def uptoBulk {H : Type} : DataW H → Nat
  | .lit (.string bytes) => bytes.length + 1
  | .lit _ => 1
  | .nil => 1
  | .ptr d => uptoBulk d + 1
  | .slice elems spare => uptoBulkAll elems + uptoBulkAll spare + 1
  | .agg parts => uptoBulkAll parts + 1
  | .iface _ d => uptoBulk d + 1
  | .map entries => uptoBulkEntries entries + 1
  | .held _ => 1
def uptoBulkAll {H : Type} : List (DataW H) → Nat
  | [] => 0
  | d :: r => uptoBulk d + uptoBulkAll r
def uptoBulkEntries {H : Type} : List (Lit × DataW H) → Nat
  | [] => 0
  | x :: r => uptoBulkEntry x + uptoBulkEntries r
def uptoBulkEntry {H : Type} : Lit × DataW H → Nat
  | (.string bytes, d) => bytes.length + uptoBulk d + 1
  | (_, d) => uptoBulk d + 1
 end
def uptoSmall : (H : Type) → List (DataW H) → Bool := fun _ ds => decide (uptoBulkAll ds ≤ 1048576)
def OpenSpec.upto (s : _root_.Go.ChangeSpec) : _root_.Go.OpenSpec := { _root_.Go.OpenSpec.ofChange s with cond := some uptoSmall }

/-- 'laws.FnExactValidDeed', WHERE WHAT IT READS IS OF BULK AT MOST 1048576: true; the input reads as it did. -/
def fnExactValidDeedUptoRow : OpenClaim := { program := "ytdjllbkfbmdlfaa", sum := "708f24a416820b39587fb9f0f54c69dbedb072095bf22b84a780866806d08daa", func := "loop.example/g01224/laws.FnExactValidDeed", spec := "fnExactValidDeed", apart := false, narrowed := true }
def FnExactValidDeedUptoSaid : Prop := fnExactValidDeedUptoRow.holds Try.pinned (OpenSpec.upto fnExactValidDeedSpec)

/-- 'laws.FnExactFallShares', WHERE WHAT IT READS IS OF BULK AT MOST 1048576: true; the input reads as it did. -/
def fnExactFallSharesUptoRow : OpenClaim := { program := "ytdjllbkfbmdlfaa", sum := "708f24a416820b39587fb9f0f54c69dbedb072095bf22b84a780866806d08daa", func := "loop.example/g01224/laws.FnExactFallShares", spec := "fnExactFallShares", apart := false, narrowed := true }
def FnExactFallSharesUptoSaid : Prop := fnExactFallSharesUptoRow.holds Try.pinned (OpenSpec.upto fnExactFallSharesSpec)

/-- 'laws.FnExactValidAct', WHERE WHAT IT READS IS OF BULK AT MOST 1048576: true; the input reads as it did. -/
def fnExactValidActUptoRow : OpenClaim := { program := "ytdjllbkfbmdlfaa", sum := "708f24a416820b39587fb9f0f54c69dbedb072095bf22b84a780866806d08daa", func := "loop.example/g01224/laws.FnExactValidAct", spec := "fnExactValidAct", inPlace := ["math.Float32bits", "math.RoundToEven"], apart := false, narrowed := true }
def FnExactValidActUptoSaid : Prop := fnExactValidActUptoRow.holds Try.pinned (OpenSpec.upto fnExactValidActSpec)

/-- 'laws.FnExactSameColumn', WHERE WHAT IT READS IS OF BULK AT MOST 1048576: true; the input reads as it did. -/
def fnExactSameColumnUptoRow : OpenClaim := { program := "ytdjllbkfbmdlfaa", sum := "708f24a416820b39587fb9f0f54c69dbedb072095bf22b84a780866806d08daa", func := "loop.example/g01224/laws.FnExactSameColumn", spec := "fnExactSameColumn", inPlace := ["math.Float32bits"], apart := false, narrowed := true }
def FnExactSameColumnUptoSaid : Prop := fnExactSameColumnUptoRow.holds Try.pinned (OpenSpec.upto fnExactSameColumnSpec)

/-- 'laws.FnExactValidColumn', WHERE WHAT IT READS IS OF BULK AT MOST 1048576: true; the input reads as it did. -/
def fnExactValidColumnUptoRow : OpenClaim := { program := "ytdjllbkfbmdlfaa", sum := "708f24a416820b39587fb9f0f54c69dbedb072095bf22b84a780866806d08daa", func := "loop.example/g01224/laws.FnExactValidColumn", spec := "fnExactValidColumn", inPlace := ["math.Float32bits"], apart := false, narrowed := true }
def FnExactValidColumnUptoSaid : Prop := fnExactValidColumnUptoRow.holds Try.pinned (OpenSpec.upto fnExactValidColumnSpec)

/-- 'laws.FnExactRainOf', WHERE WHAT IT READS IS OF BULK AT MOST 1048576: true; the input reads as it did. -/
def fnExactRainOfUptoRow : OpenClaim := { program := "ytdjllbkfbmdlfaa", sum := "708f24a416820b39587fb9f0f54c69dbedb072095bf22b84a780866806d08daa", func := "loop.example/g01224/laws.FnExactRainOf", spec := "fnExactRainOf", inPlace := ["math.Float32bits"], apart := false, narrowed := true }
def FnExactRainOfUptoSaid : Prop := fnExactRainOfUptoRow.holds Try.pinned (OpenSpec.upto fnExactRainOfSpec)

/-- 'laws.FnExactStillColumn', WHERE WHAT IT READS IS OF BULK AT MOST 1048576: true; the input reads as it did. -/
def fnExactStillColumnUptoRow : OpenClaim := { program := "ytdjllbkfbmdlfaa", sum := "708f24a416820b39587fb9f0f54c69dbedb072095bf22b84a780866806d08daa", func := "loop.example/g01224/laws.FnExactStillColumn", spec := "fnExactStillColumn", inPlace := ["math.Float32bits"], apart := false, narrowed := true }
def FnExactStillColumnUptoSaid : Prop := fnExactStillColumnUptoRow.holds Try.pinned (OpenSpec.upto fnExactStillColumnSpec)

/-- 'laws.FnExactWaterOfColumn', WHERE WHAT IT READS IS OF BULK AT MOST 1048576: true; the input reads as it did. -/
def fnExactWaterOfColumnUptoRow : OpenClaim := { program := "ytdjllbkfbmdlfaa", sum := "708f24a416820b39587fb9f0f54c69dbedb072095bf22b84a780866806d08daa", func := "loop.example/g01224/laws.FnExactWaterOfColumn", spec := "fnExactWaterOfColumn", inPlace := ["math.Float32bits"], apart := false, narrowed := true }
def FnExactWaterOfColumnUptoSaid : Prop := fnExactWaterOfColumnUptoRow.holds Try.pinned (OpenSpec.upto fnExactWaterOfColumnSpec)

/-- 'laws.FnFalls', WHERE WHAT IT READS IS OF BULK AT MOST 1048576: true; the input reads as it did. -/
def fnFallsUptoRow : OpenClaim := { program := "ytdjllbkfbmdlfaa", sum := "708f24a416820b39587fb9f0f54c69dbedb072095bf22b84a780866806d08daa", func := "loop.example/g01224/laws.FnFalls", spec := "fnFalls", inPlace := ["math.Float32bits"], apart := false, narrowed := true }
def FnFallsUptoSaid : Prop := fnFallsUptoRow.holds Try.pinned (OpenSpec.upto fnFallsSpec)

/-- 'laws.FnExactStirColumn', WHERE WHAT IT READS IS OF BULK AT MOST 1048576: true; the input reads as it did. -/
def fnExactStirColumnUptoRow : OpenClaim := { program := "ytdjllbkfbmdlfaa", sum := "708f24a416820b39587fb9f0f54c69dbedb072095bf22b84a780866806d08daa", func := "loop.example/g01224/laws.FnExactStirColumn", spec := "fnExactStirColumn", inPlace := ["math.Float32bits"], apart := false, narrowed := true }
def FnExactStirColumnUptoSaid : Prop := fnExactStirColumnUptoRow.holds Try.pinned (OpenSpec.upto fnExactStirColumnSpec)

/-- 'laws.FnExactSettleOnce', WHERE WHAT IT READS IS OF BULK AT MOST 1048576: true; the input reads as it did. -/
def fnExactSettleOnceUptoRow : OpenClaim := { program := "ytdjllbkfbmdlfaa", sum := "708f24a416820b39587fb9f0f54c69dbedb072095bf22b84a780866806d08daa", func := "loop.example/g01224/laws.FnExactSettleOnce", spec := "fnExactSettleOnce", inPlace := ["math.Float32bits"], apart := false, narrowed := true }
def FnExactSettleOnceUptoSaid : Prop := fnExactSettleOnceUptoRow.holds Try.pinned (OpenSpec.upto fnExactSettleOnceSpec)

end Rows
end Go.Proofs.Ytdjllbkfbmdlfaa
