/-
  No cell of these rows narrows 'for every input' (looked for: loops, veiled, ifaces, maps, wideKeys, modest, calm, conditions, laid).
  DERIVED. THE GIVEN ROWS OF THIS SEAT. 11 by the template 'for every input the law returns true; each argument reads behind the call as it read before'; 0 by the template 'total and deterministic' (their statements: YtidmkdaegglepaaTotals.lean).
  GIVEN WITH THE SEED: the statements are not yours to turn. If you find one false, say at which input.
  Laid BY PROGRAM, IN A SANDBOX (cutbox-rows.mjs): the forced cells as the released guide's own fill.sh prints them over the translation 5a3e24aaf660030a… (all of the seat's roots in one cut). By AI agents, Wed Nov 11 2026. No macro, syntax, notation, axiom, sorry.
-/
import Derived.Test.YtidmkdaegglepaaChecked
import GoSem.Claim
import GoSem.ClaimJoined
import GoSem.ClaimMapViews
import Derived.JoinedTies
import Derived.KernelRfl
namespace Go.Proofs.Ytidmkdaegglepaa
/- THE CELL 'sum', in the pinned program and in every row, IS THE sha256 OF THE DUMP (.gsa) THAT YtidmkdaegglepaaProg.lean LOADS. Nothing in Lean hashes anything: it is a label: what it is worth is what the hold of that sum in a sandbox is worth. -/
noncomputable def Try.pinned : Pinned := { name := "ytidmkdaegglepaa", sum := "5a3e24aaf660030abd53a8c8a7007af8c2e9b5452ebe57ed7d6612f57e92e6a9", checked := Try.checked }
namespace Rows
def none {H : Type} : Left H := { results := [], args := [] }

/-- 'imagolaw24.DescRight': WHATEVER THE INPUT: true; the input reads as it did. -/
def descRightSpec : ChangeSpec := { name := "descRight", fn := fun _ => fun
  | [d] => { results := [.lit (.bool true)], args := [d] }
  | _ => none }
def descRightRow : OpenClaim := { program := "ytidmkdaegglepaa", sum := "5a3e24aaf660030abd53a8c8a7007af8c2e9b5452ebe57ed7d6612f57e92e6a9", func := "imago/imagolaw24.DescRight", spec := "descRight", plainKeys := false, apart := false }
def DescRightSaid : Prop := descRightRow.holds Try.pinned (OpenSpec.ofChange descRightSpec)

/-- ITS FALSE NEIGHBOUR: 'it returns false'. Refute it at one input. -/
def descRightWrong : ChangeSpec := { name := "descRight", fn := fun _ => fun
  | [d] => { results := [.lit (.bool false)], args := [d] }
  | _ => none }
def DescRightWrongFalsely : Prop := descRightRow.holds Try.pinned (OpenSpec.ofChange descRightWrong)

/-- 'imagolaw24.DescSteps': WHATEVER THE INPUT: true; the input reads as it did. -/
def descStepsSpec : ChangeSpec := { name := "descSteps", fn := fun _ => fun
  | [d] => { results := [.lit (.bool true)], args := [d] }
  | _ => none }
def descStepsRow : OpenClaim := { program := "ytidmkdaegglepaa", sum := "5a3e24aaf660030abd53a8c8a7007af8c2e9b5452ebe57ed7d6612f57e92e6a9", func := "imago/imagolaw24.DescSteps", spec := "descSteps", plainKeys := false, apart := false }
def DescStepsSaid : Prop := descStepsRow.holds Try.pinned (OpenSpec.ofChange descStepsSpec)

/-- ITS FALSE NEIGHBOUR: 'it returns false'. Refute it at one input. -/
def descStepsWrong : ChangeSpec := { name := "descSteps", fn := fun _ => fun
  | [d] => { results := [.lit (.bool false)], args := [d] }
  | _ => none }
def DescStepsWrongFalsely : Prop := descStepsRow.holds Try.pinned (OpenSpec.ofChange descStepsWrong)

/-- 'imagolaw24.DescPlaces': WHATEVER THE INPUT: true; the input reads as it did. -/
def descPlacesSpec : ChangeSpec := { name := "descPlaces", fn := fun _ => fun
  | [d1, d2, d3] => { results := [.lit (.bool true)], args := [d1, d2, d3] }
  | _ => none }
def descPlacesRow : OpenClaim := { program := "ytidmkdaegglepaa", sum := "5a3e24aaf660030abd53a8c8a7007af8c2e9b5452ebe57ed7d6612f57e92e6a9", func := "imago/imagolaw24.DescPlaces", spec := "descPlaces", plainKeys := false, apart := false }
def DescPlacesSaid : Prop := descPlacesRow.holds Try.pinned (OpenSpec.ofChange descPlacesSpec)

/-- ITS FALSE NEIGHBOUR: 'it returns false'. Refute it at one input. -/
def descPlacesWrong : ChangeSpec := { name := "descPlaces", fn := fun _ => fun
  | [d1, d2, d3] => { results := [.lit (.bool false)], args := [d1, d2, d3] }
  | _ => none }
def DescPlacesWrongFalsely : Prop := descPlacesRow.holds Try.pinned (OpenSpec.ofChange descPlacesWrong)

/-- 'imagolaw24.DescFork': WHATEVER THE INPUT: true; the input reads as it did. -/
def descForkSpec : ChangeSpec := { name := "descFork", fn := fun _ => fun
  | [d1, d2, d3] => { results := [.lit (.bool true)], args := [d1, d2, d3] }
  | _ => none }
def descForkRow : OpenClaim := { program := "ytidmkdaegglepaa", sum := "5a3e24aaf660030abd53a8c8a7007af8c2e9b5452ebe57ed7d6612f57e92e6a9", func := "imago/imagolaw24.DescFork", spec := "descFork", plainKeys := false, apart := false }
def DescForkSaid : Prop := descForkRow.holds Try.pinned (OpenSpec.ofChange descForkSpec)

/-- ITS FALSE NEIGHBOUR: 'it returns false'. Refute it at one input. -/
def descForkWrong : ChangeSpec := { name := "descFork", fn := fun _ => fun
  | [d1, d2, d3] => { results := [.lit (.bool false)], args := [d1, d2, d3] }
  | _ => none }
def DescForkWrongFalsely : Prop := descForkRow.holds Try.pinned (OpenSpec.ofChange descForkWrong)

/-- 'imagolaw24.DescNil': WHATEVER THE INPUT: true; the input reads as it did. -/
def descNilSpec : ChangeSpec := { name := "descNil", fn := fun _ => fun
  | [d] => { results := [.lit (.bool true)], args := [d] }
  | _ => none }
def descNilRow : OpenClaim := { program := "ytidmkdaegglepaa", sum := "5a3e24aaf660030abd53a8c8a7007af8c2e9b5452ebe57ed7d6612f57e92e6a9", func := "imago/imagolaw24.DescNil", spec := "descNil", plainKeys := false, apart := false }
def DescNilSaid : Prop := descNilRow.holds Try.pinned (OpenSpec.ofChange descNilSpec)

/-- ITS FALSE NEIGHBOUR: 'it returns false'. Refute it at one input. -/
def descNilWrong : ChangeSpec := { name := "descNil", fn := fun _ => fun
  | [d] => { results := [.lit (.bool false)], args := [d] }
  | _ => none }
def DescNilWrongFalsely : Prop := descNilRow.holds Try.pinned (OpenSpec.ofChange descNilWrong)

/-- 'imagolaw24.DescLoad': WHATEVER THE INPUT: true; the input reads as it did. -/
def descLoadSpec : ChangeSpec := { name := "descLoad", fn := fun _ => fun
  | [d1, d2] => { results := [.lit (.bool true)], args := [d1, d2] }
  | _ => none }
def descLoadRow : OpenClaim := { program := "ytidmkdaegglepaa", sum := "5a3e24aaf660030abd53a8c8a7007af8c2e9b5452ebe57ed7d6612f57e92e6a9", func := "imago/imagolaw24.DescLoad", spec := "descLoad", plainKeys := false, apart := false }
def DescLoadSaid : Prop := descLoadRow.holds Try.pinned (OpenSpec.ofChange descLoadSpec)

/-- ITS FALSE NEIGHBOUR: 'it returns false'. Refute it at one input. -/
def descLoadWrong : ChangeSpec := { name := "descLoad", fn := fun _ => fun
  | [d1, d2] => { results := [.lit (.bool false)], args := [d1, d2] }
  | _ => none }
def DescLoadWrongFalsely : Prop := descLoadRow.holds Try.pinned (OpenSpec.ofChange descLoadWrong)

/-- 'imagolaw25.OpensSteps': WHATEVER THE INPUT: true; the input reads as it did. -/
def opensStepsSpec : ChangeSpec := { name := "opensSteps", fn := fun _ => fun
  | [d] => { results := [.lit (.bool true)], args := [d] }
  | _ => none }
def opensStepsRow : OpenClaim := { program := "ytidmkdaegglepaa", sum := "5a3e24aaf660030abd53a8c8a7007af8c2e9b5452ebe57ed7d6612f57e92e6a9", func := "imago/imagolaw25.OpensSteps", spec := "opensSteps", plainKeys := false, apart := false }
def OpensStepsSaid : Prop := opensStepsRow.holds Try.pinned (OpenSpec.ofChange opensStepsSpec)

/-- ITS FALSE NEIGHBOUR: 'it returns false'. Refute it at one input. -/
def opensStepsWrong : ChangeSpec := { name := "opensSteps", fn := fun _ => fun
  | [d] => { results := [.lit (.bool false)], args := [d] }
  | _ => none }
def OpensStepsWrongFalsely : Prop := opensStepsRow.holds Try.pinned (OpenSpec.ofChange opensStepsWrong)

/-- 'imagolaw25.OpensOne': WHATEVER THE INPUT: true; the input reads as it did. -/
def opensOneSpec : ChangeSpec := { name := "opensOne", fn := fun _ => fun
  | [d1, d2] => { results := [.lit (.bool true)], args := [d1, d2] }
  | _ => none }
def opensOneRow : OpenClaim := { program := "ytidmkdaegglepaa", sum := "5a3e24aaf660030abd53a8c8a7007af8c2e9b5452ebe57ed7d6612f57e92e6a9", func := "imago/imagolaw25.OpensOne", spec := "opensOne", plainKeys := false, apart := false }
def OpensOneSaid : Prop := opensOneRow.holds Try.pinned (OpenSpec.ofChange opensOneSpec)

/-- ITS FALSE NEIGHBOUR: 'it returns false'. Refute it at one input. -/
def opensOneWrong : ChangeSpec := { name := "opensOne", fn := fun _ => fun
  | [d1, d2] => { results := [.lit (.bool false)], args := [d1, d2] }
  | _ => none }
def OpensOneWrongFalsely : Prop := opensOneRow.holds Try.pinned (OpenSpec.ofChange opensOneWrong)

/-- 'imagolaw25.OpensThere': WHATEVER THE INPUT: true; the input reads as it did. -/
def opensThereSpec : ChangeSpec := { name := "opensThere", fn := fun _ => fun
  | [d] => { results := [.lit (.bool true)], args := [d] }
  | _ => none }
def opensThereRow : OpenClaim := { program := "ytidmkdaegglepaa", sum := "5a3e24aaf660030abd53a8c8a7007af8c2e9b5452ebe57ed7d6612f57e92e6a9", func := "imago/imagolaw25.OpensThere", spec := "opensThere", plainKeys := false, apart := false }
def OpensThereSaid : Prop := opensThereRow.holds Try.pinned (OpenSpec.ofChange opensThereSpec)

/-- ITS FALSE NEIGHBOUR: 'it returns false'. Refute it at one input. -/
def opensThereWrong : ChangeSpec := { name := "opensThere", fn := fun _ => fun
  | [d] => { results := [.lit (.bool false)], args := [d] }
  | _ => none }
def OpensThereWrongFalsely : Prop := opensThereRow.holds Try.pinned (OpenSpec.ofChange opensThereWrong)

/-- 'imagolaw25.OpensNil': WHATEVER THE INPUT: true; the input reads as it did. -/
def opensNilSpec : ChangeSpec := { name := "opensNil", fn := fun _ => fun
  | [d] => { results := [.lit (.bool true)], args := [d] }
  | _ => none }
def opensNilRow : OpenClaim := { program := "ytidmkdaegglepaa", sum := "5a3e24aaf660030abd53a8c8a7007af8c2e9b5452ebe57ed7d6612f57e92e6a9", func := "imago/imagolaw25.OpensNil", spec := "opensNil", plainKeys := false, apart := false }
def OpensNilSaid : Prop := opensNilRow.holds Try.pinned (OpenSpec.ofChange opensNilSpec)

/-- ITS FALSE NEIGHBOUR: 'it returns false'. Refute it at one input. -/
def opensNilWrong : ChangeSpec := { name := "opensNil", fn := fun _ => fun
  | [d] => { results := [.lit (.bool false)], args := [d] }
  | _ => none }
def OpensNilWrongFalsely : Prop := opensNilRow.holds Try.pinned (OpenSpec.ofChange opensNilWrong)

/-- 'imagolaw25.OpensLoad': WHATEVER THE INPUT: true; the input reads as it did. -/
def opensLoadSpec : ChangeSpec := { name := "opensLoad", fn := fun _ => fun
  | [d1, d2, d3] => { results := [.lit (.bool true)], args := [d1, d2, d3] }
  | _ => none }
def opensLoadRow : OpenClaim := { program := "ytidmkdaegglepaa", sum := "5a3e24aaf660030abd53a8c8a7007af8c2e9b5452ebe57ed7d6612f57e92e6a9", func := "imago/imagolaw25.OpensLoad", spec := "opensLoad", plainKeys := false, apart := false }
def OpensLoadSaid : Prop := opensLoadRow.holds Try.pinned (OpenSpec.ofChange opensLoadSpec)

/-- ITS FALSE NEIGHBOUR: 'it returns false'. Refute it at one input. -/
def opensLoadWrong : ChangeSpec := { name := "opensLoad", fn := fun _ => fun
  | [d1, d2, d3] => { results := [.lit (.bool false)], args := [d1, d2, d3] }
  | _ => none }
def OpensLoadWrongFalsely : Prop := opensLoadRow.holds Try.pinned (OpenSpec.ofChange opensLoadWrong)

/- THE SECOND FORM. 'bulk': how many values and letters a reading holds, each counted each time it is reached (what is shared counts as often as it is met; a slice's spare places count too). A statement '..UptoSaid' is the law's where the arguments, and the package variables that the reading takes, are together of bulk at most 1048576: NARROWER than '..Said'. Prove '..Said' where nothing that the law and all that it calls make is longer than what came in: it says more and counts as full. Else prove '..UptoSaid'. A law counts once. -/
mutual
def uptoBulk {H : Type} : DataW H → Nat
  | .lit (.string bytes) => bytes.length + 1
  | .lit _ => 1
  | .nil => 1
  | .ptr d => uptoBulk d + 1
  | .slice elems spare => uptoBulkAll elems + uptoBulkAll spare + 1
  | .agg parts => uptoBulkAll parts + 1
  | .iface _ d => uptoBulk d + 1
  | .map entries => uptoBulkEntries entries + 1
  | .held _ => 1
def uptoBulkAll {H : Type} : List (DataW H) → Nat
  | [] => 0
  | d :: r => uptoBulk d + uptoBulkAll r
def uptoBulkEntries {H : Type} : List (Lit × DataW H) → Nat
  | [] => 0
  | x :: r => uptoBulkEntry x + uptoBulkEntries r
def uptoBulkEntry {H : Type} : Lit × DataW H → Nat
  | (.string bytes, d) => bytes.length + uptoBulk d + 1
  | (_, d) => uptoBulk d + 1
 end
def uptoSmall : (H : Type) → List (DataW H) → Bool := fun _ ds => decide (uptoBulkAll ds ≤ 1048576)
def OpenSpec.upto (s : _root_.Go.ChangeSpec) : _root_.Go.OpenSpec := { _root_.Go.OpenSpec.ofChange s with cond := some uptoSmall }

/-- 'imagolaw24.DescRight', WHERE WHAT IT READS IS OF BULK AT MOST 1048576: true; the input reads as it did. -/
def descRightUptoRow : OpenClaim := { program := "ytidmkdaegglepaa", sum := "5a3e24aaf660030abd53a8c8a7007af8c2e9b5452ebe57ed7d6612f57e92e6a9", func := "imago/imagolaw24.DescRight", spec := "descRight", plainKeys := false, apart := false, narrowed := true }
def DescRightUptoSaid : Prop := descRightUptoRow.holds Try.pinned (OpenSpec.upto descRightSpec)

/-- 'imagolaw24.DescSteps', WHERE WHAT IT READS IS OF BULK AT MOST 1048576: true; the input reads as it did. -/
def descStepsUptoRow : OpenClaim := { program := "ytidmkdaegglepaa", sum := "5a3e24aaf660030abd53a8c8a7007af8c2e9b5452ebe57ed7d6612f57e92e6a9", func := "imago/imagolaw24.DescSteps", spec := "descSteps", plainKeys := false, apart := false, narrowed := true }
def DescStepsUptoSaid : Prop := descStepsUptoRow.holds Try.pinned (OpenSpec.upto descStepsSpec)

/-- 'imagolaw24.DescPlaces', WHERE WHAT IT READS IS OF BULK AT MOST 1048576: true; the input reads as it did. -/
def descPlacesUptoRow : OpenClaim := { program := "ytidmkdaegglepaa", sum := "5a3e24aaf660030abd53a8c8a7007af8c2e9b5452ebe57ed7d6612f57e92e6a9", func := "imago/imagolaw24.DescPlaces", spec := "descPlaces", plainKeys := false, apart := false, narrowed := true }
def DescPlacesUptoSaid : Prop := descPlacesUptoRow.holds Try.pinned (OpenSpec.upto descPlacesSpec)

/-- 'imagolaw24.DescFork', WHERE WHAT IT READS IS OF BULK AT MOST 1048576: true; the input reads as it did. -/
def descForkUptoRow : OpenClaim := { program := "ytidmkdaegglepaa", sum := "5a3e24aaf660030abd53a8c8a7007af8c2e9b5452ebe57ed7d6612f57e92e6a9", func := "imago/imagolaw24.DescFork", spec := "descFork", plainKeys := false, apart := false, narrowed := true }
def DescForkUptoSaid : Prop := descForkUptoRow.holds Try.pinned (OpenSpec.upto descForkSpec)

/-- 'imagolaw24.DescNil', WHERE WHAT IT READS IS OF BULK AT MOST 1048576: true; the input reads as it did. -/
def descNilUptoRow : OpenClaim := { program := "ytidmkdaegglepaa", sum := "5a3e24aaf660030abd53a8c8a7007af8c2e9b5452ebe57ed7d6612f57e92e6a9", func := "imago/imagolaw24.DescNil", spec := "descNil", plainKeys := false, apart := false, narrowed := true }
def DescNilUptoSaid : Prop := descNilUptoRow.holds Try.pinned (OpenSpec.upto descNilSpec)

/-- 'imagolaw24.DescLoad', WHERE WHAT IT READS IS OF BULK AT MOST 1048576: true; the input reads as it did. -/
def descLoadUptoRow : OpenClaim := { program := "ytidmkdaegglepaa", sum := "5a3e24aaf660030abd53a8c8a7007af8c2e9b5452ebe57ed7d6612f57e92e6a9", func := "imago/imagolaw24.DescLoad", spec := "descLoad", plainKeys := false, apart := false, narrowed := true }
def DescLoadUptoSaid : Prop := descLoadUptoRow.holds Try.pinned (OpenSpec.upto descLoadSpec)

/-- 'imagolaw25.OpensSteps', WHERE WHAT IT READS IS OF BULK AT MOST 1048576: true; the input reads as it did. -/
def opensStepsUptoRow : OpenClaim := { program := "ytidmkdaegglepaa", sum := "5a3e24aaf660030abd53a8c8a7007af8c2e9b5452ebe57ed7d6612f57e92e6a9", func := "imago/imagolaw25.OpensSteps", spec := "opensSteps", plainKeys := false, apart := false, narrowed := true }
def OpensStepsUptoSaid : Prop := opensStepsUptoRow.holds Try.pinned (OpenSpec.upto opensStepsSpec)

/-- 'imagolaw25.OpensOne', WHERE WHAT IT READS IS OF BULK AT MOST 1048576: true; the input reads as it did. -/
def opensOneUptoRow : OpenClaim := { program := "ytidmkdaegglepaa", sum := "5a3e24aaf660030abd53a8c8a7007af8c2e9b5452ebe57ed7d6612f57e92e6a9", func := "imago/imagolaw25.OpensOne", spec := "opensOne", plainKeys := false, apart := false, narrowed := true }
def OpensOneUptoSaid : Prop := opensOneUptoRow.holds Try.pinned (OpenSpec.upto opensOneSpec)

/-- 'imagolaw25.OpensThere', WHERE WHAT IT READS IS OF BULK AT MOST 1048576: true; the input reads as it did. -/
def opensThereUptoRow : OpenClaim := { program := "ytidmkdaegglepaa", sum := "5a3e24aaf660030abd53a8c8a7007af8c2e9b5452ebe57ed7d6612f57e92e6a9", func := "imago/imagolaw25.OpensThere", spec := "opensThere", plainKeys := false, apart := false, narrowed := true }
def OpensThereUptoSaid : Prop := opensThereUptoRow.holds Try.pinned (OpenSpec.upto opensThereSpec)

/-- 'imagolaw25.OpensNil', WHERE WHAT IT READS IS OF BULK AT MOST 1048576: true; the input reads as it did. -/
def opensNilUptoRow : OpenClaim := { program := "ytidmkdaegglepaa", sum := "5a3e24aaf660030abd53a8c8a7007af8c2e9b5452ebe57ed7d6612f57e92e6a9", func := "imago/imagolaw25.OpensNil", spec := "opensNil", plainKeys := false, apart := false, narrowed := true }
def OpensNilUptoSaid : Prop := opensNilUptoRow.holds Try.pinned (OpenSpec.upto opensNilSpec)

/-- 'imagolaw25.OpensLoad', WHERE WHAT IT READS IS OF BULK AT MOST 1048576: true; the input reads as it did. -/
def opensLoadUptoRow : OpenClaim := { program := "ytidmkdaegglepaa", sum := "5a3e24aaf660030abd53a8c8a7007af8c2e9b5452ebe57ed7d6612f57e92e6a9", func := "imago/imagolaw25.OpensLoad", spec := "opensLoad", plainKeys := false, apart := false, narrowed := true }
def OpensLoadUptoSaid : Prop := opensLoadUptoRow.holds Try.pinned (OpenSpec.upto opensLoadSpec)

end Rows
end Go.Proofs.Ytidmkdaegglepaa
