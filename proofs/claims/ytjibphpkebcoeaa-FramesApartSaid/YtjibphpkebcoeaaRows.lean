/-
  No cell of these rows narrows 'for every input' (looked for: loops, veiled, ifaces, maps, wideKeys, modest, calm, conditions, laid).
  DERIVED. THE GIVEN ROWS OF THIS SEAT. 9 by the template 'for every input the law returns true; each argument reads behind the call as it read before'; 0 by the template 'total and deterministic' (their statements: YtjibphpkebcoeaaTotals.lean).
  GIVEN WITH THE SEED: the statements are not yours to turn. If you find one false, say at which input.
  Laid BY PROGRAM, IN A SANDBOX (cutbox-rows.mjs): the forced cells as the released guide's own fill.sh prints them over the translation f56a4cb6c5ad33ce… (all of the seat's roots in one cut). By AI agents, Wed Nov 11 2026. No macro, syntax, notation, axiom, sorry.
-/
import Derived.Test.YtjibphpkebcoeaaChecked
import GoSem.Claim
import GoSem.ClaimJoined
import GoSem.ClaimMapViews
import Derived.JoinedTies
import Derived.KernelRfl
namespace Go.Proofs.Ytjibphpkebcoeaa
/- THE CELL 'sum', in the pinned program and in every row, IS THE sha256 OF THE DUMP (.gsa) THAT YtjibphpkebcoeaaProg.lean LOADS. Nothing in Lean hashes anything: it is a label: what it is worth is what the hold of that sum in a sandbox is worth. -/
noncomputable def Try.pinned : Pinned := { name := "ytjibphpkebcoeaa", sum := "f56a4cb6c5ad33ce18018eaad193a0a27f3e90ee0ae7478afd9569cf5274c9e8", checked := Try.checked }
namespace Rows
def none {H : Type} : Left H := { results := [], args := [] }

/-- 'imagolaw22.PipesOrder': WHATEVER THE INPUT: true; the input reads as it did. -/
def pipesOrderSpec : ChangeSpec := { name := "pipesOrder", fn := fun _ => fun
  | [d] => { results := [.lit (.bool true)], args := [d] }
  | _ => none }
def pipesOrderRow : OpenClaim := { program := "ytjibphpkebcoeaa", sum := "f56a4cb6c5ad33ce18018eaad193a0a27f3e90ee0ae7478afd9569cf5274c9e8", func := "imago/imagolaw22.PipesOrder", spec := "pipesOrder", apart := false }
def PipesOrderSaid : Prop := pipesOrderRow.holds Try.pinned (OpenSpec.ofChange pipesOrderSpec)

/-- ITS FALSE NEIGHBOUR: 'it returns false'. Refute it at one input. -/
def pipesOrderWrong : ChangeSpec := { name := "pipesOrder", fn := fun _ => fun
  | [d] => { results := [.lit (.bool false)], args := [d] }
  | _ => none }
def PipesOrderWrongFalsely : Prop := pipesOrderRow.holds Try.pinned (OpenSpec.ofChange pipesOrderWrong)

/-- 'imagolaw02.FramesBack': WHATEVER THE INPUT: true; the input reads as it did. -/
def framesBackSpec : ChangeSpec := { name := "framesBack", fn := fun _ => fun
  | [d1, d2, d3] => { results := [.lit (.bool true)], args := [d1, d2, d3] }
  | _ => none }
def framesBackRow : OpenClaim := { program := "ytjibphpkebcoeaa", sum := "f56a4cb6c5ad33ce18018eaad193a0a27f3e90ee0ae7478afd9569cf5274c9e8", func := "imago/imagolaw02.FramesBack", spec := "framesBack", apart := false }
def FramesBackSaid : Prop := framesBackRow.holds Try.pinned (OpenSpec.ofChange framesBackSpec)

/-- ITS FALSE NEIGHBOUR: 'it returns false'. Refute it at one input. -/
def framesBackWrong : ChangeSpec := { name := "framesBack", fn := fun _ => fun
  | [d1, d2, d3] => { results := [.lit (.bool false)], args := [d1, d2, d3] }
  | _ => none }
def FramesBackWrongFalsely : Prop := framesBackRow.holds Try.pinned (OpenSpec.ofChange framesBackWrong)

/-- 'imagolaw02.FramesSteps': WHATEVER THE INPUT: true; the input reads as it did. -/
def framesStepsSpec : ChangeSpec := { name := "framesSteps", fn := fun _ => fun
  | [d1, d2] => { results := [.lit (.bool true)], args := [d1, d2] }
  | _ => none }
def framesStepsRow : OpenClaim := { program := "ytjibphpkebcoeaa", sum := "f56a4cb6c5ad33ce18018eaad193a0a27f3e90ee0ae7478afd9569cf5274c9e8", func := "imago/imagolaw02.FramesSteps", spec := "framesSteps", apart := false }
def FramesStepsSaid : Prop := framesStepsRow.holds Try.pinned (OpenSpec.ofChange framesStepsSpec)

/-- ITS FALSE NEIGHBOUR: 'it returns false'. Refute it at one input. -/
def framesStepsWrong : ChangeSpec := { name := "framesSteps", fn := fun _ => fun
  | [d1, d2] => { results := [.lit (.bool false)], args := [d1, d2] }
  | _ => none }
def FramesStepsWrongFalsely : Prop := framesStepsRow.holds Try.pinned (OpenSpec.ofChange framesStepsWrong)

/-- 'imagolaw02.FramesApart': WHATEVER THE INPUT: true; the input reads as it did. -/
def framesApartSpec : ChangeSpec := { name := "framesApart", fn := fun _ => fun
  | [d1, d2] => { results := [.lit (.bool true)], args := [d1, d2] }
  | _ => none }
def framesApartRow : OpenClaim := { program := "ytjibphpkebcoeaa", sum := "f56a4cb6c5ad33ce18018eaad193a0a27f3e90ee0ae7478afd9569cf5274c9e8", func := "imago/imagolaw02.FramesApart", spec := "framesApart", apart := false }
def FramesApartSaid : Prop := framesApartRow.holds Try.pinned (OpenSpec.ofChange framesApartSpec)

/-- ITS FALSE NEIGHBOUR: 'it returns false'. Refute it at one input. -/
def framesApartWrong : ChangeSpec := { name := "framesApart", fn := fun _ => fun
  | [d1, d2] => { results := [.lit (.bool false)], args := [d1, d2] }
  | _ => none }
def FramesApartWrongFalsely : Prop := framesApartRow.holds Try.pinned (OpenSpec.ofChange framesApartWrong)

/-- 'imagolaw02.FramesNil': WHATEVER THE INPUT: true; the input reads as it did. -/
def framesNilSpec : ChangeSpec := { name := "framesNil", fn := fun _ => fun
  | [d] => { results := [.lit (.bool true)], args := [d] }
  | _ => none }
def framesNilRow : OpenClaim := { program := "ytjibphpkebcoeaa", sum := "f56a4cb6c5ad33ce18018eaad193a0a27f3e90ee0ae7478afd9569cf5274c9e8", func := "imago/imagolaw02.FramesNil", spec := "framesNil", apart := false }
def FramesNilSaid : Prop := framesNilRow.holds Try.pinned (OpenSpec.ofChange framesNilSpec)

/-- ITS FALSE NEIGHBOUR: 'it returns false'. Refute it at one input. -/
def framesNilWrong : ChangeSpec := { name := "framesNil", fn := fun _ => fun
  | [d] => { results := [.lit (.bool false)], args := [d] }
  | _ => none }
def FramesNilWrongFalsely : Prop := framesNilRow.holds Try.pinned (OpenSpec.ofChange framesNilWrong)

/-- 'imagolaw22.PipesSteps': WHATEVER THE INPUT: true; the input reads as it did. -/
def pipesStepsSpec : ChangeSpec := { name := "pipesSteps", fn := fun _ => fun
  | [d] => { results := [.lit (.bool true)], args := [d] }
  | _ => none }
def pipesStepsRow : OpenClaim := { program := "ytjibphpkebcoeaa", sum := "f56a4cb6c5ad33ce18018eaad193a0a27f3e90ee0ae7478afd9569cf5274c9e8", func := "imago/imagolaw22.PipesSteps", spec := "pipesSteps", apart := false }
def PipesStepsSaid : Prop := pipesStepsRow.holds Try.pinned (OpenSpec.ofChange pipesStepsSpec)

/-- ITS FALSE NEIGHBOUR: 'it returns false'. Refute it at one input. -/
def pipesStepsWrong : ChangeSpec := { name := "pipesSteps", fn := fun _ => fun
  | [d] => { results := [.lit (.bool false)], args := [d] }
  | _ => none }
def PipesStepsWrongFalsely : Prop := pipesStepsRow.holds Try.pinned (OpenSpec.ofChange pipesStepsWrong)

/-- 'imagolaw22.PipesApart': WHATEVER THE INPUT: true; the input reads as it did. -/
def pipesApartSpec : ChangeSpec := { name := "pipesApart", fn := fun _ => fun
  | [d1, d2] => { results := [.lit (.bool true)], args := [d1, d2] }
  | _ => none }
def pipesApartRow : OpenClaim := { program := "ytjibphpkebcoeaa", sum := "f56a4cb6c5ad33ce18018eaad193a0a27f3e90ee0ae7478afd9569cf5274c9e8", func := "imago/imagolaw22.PipesApart", spec := "pipesApart", apart := false }
def PipesApartSaid : Prop := pipesApartRow.holds Try.pinned (OpenSpec.ofChange pipesApartSpec)

/-- ITS FALSE NEIGHBOUR: 'it returns false'. Refute it at one input. -/
def pipesApartWrong : ChangeSpec := { name := "pipesApart", fn := fun _ => fun
  | [d1, d2] => { results := [.lit (.bool false)], args := [d1, d2] }
  | _ => none }
def PipesApartWrongFalsely : Prop := pipesApartRow.holds Try.pinned (OpenSpec.ofChange pipesApartWrong)

/-- 'imagolaw22.PipesNil': WHATEVER THE INPUT: true; the input reads as it did. -/
def pipesNilSpec : ChangeSpec := { name := "pipesNil", fn := fun _ => fun
  | [d] => { results := [.lit (.bool true)], args := [d] }
  | _ => none }
def pipesNilRow : OpenClaim := { program := "ytjibphpkebcoeaa", sum := "f56a4cb6c5ad33ce18018eaad193a0a27f3e90ee0ae7478afd9569cf5274c9e8", func := "imago/imagolaw22.PipesNil", spec := "pipesNil", apart := false }
def PipesNilSaid : Prop := pipesNilRow.holds Try.pinned (OpenSpec.ofChange pipesNilSpec)

/-- ITS FALSE NEIGHBOUR: 'it returns false'. Refute it at one input. -/
def pipesNilWrong : ChangeSpec := { name := "pipesNil", fn := fun _ => fun
  | [d] => { results := [.lit (.bool false)], args := [d] }
  | _ => none }
def PipesNilWrongFalsely : Prop := pipesNilRow.holds Try.pinned (OpenSpec.ofChange pipesNilWrong)

/-- 'imagolaw22.PipesLoad': WHATEVER THE INPUT: true; the input reads as it did. -/
def pipesLoadSpec : ChangeSpec := { name := "pipesLoad", fn := fun _ => fun
  | [d1, d2] => { results := [.lit (.bool true)], args := [d1, d2] }
  | _ => none }
def pipesLoadRow : OpenClaim := { program := "ytjibphpkebcoeaa", sum := "f56a4cb6c5ad33ce18018eaad193a0a27f3e90ee0ae7478afd9569cf5274c9e8", func := "imago/imagolaw22.PipesLoad", spec := "pipesLoad", apart := false }
def PipesLoadSaid : Prop := pipesLoadRow.holds Try.pinned (OpenSpec.ofChange pipesLoadSpec)

/-- ITS FALSE NEIGHBOUR: 'it returns false'. Refute it at one input. -/
def pipesLoadWrong : ChangeSpec := { name := "pipesLoad", fn := fun _ => fun
  | [d1, d2] => { results := [.lit (.bool false)], args := [d1, d2] }
  | _ => none }
def PipesLoadWrongFalsely : Prop := pipesLoadRow.holds Try.pinned (OpenSpec.ofChange pipesLoadWrong)

/- THE SECOND FORM. 'bulk': how many values and letters a reading holds, each counted each time it is reached (what is shared counts as often as it is met; a slice's spare places count too). A statement '..UptoSaid' is the law's where the arguments, and the package variables that the reading takes, are together of bulk at most 1048576: NARROWER than '..Said'. Prove '..Said' where nothing that the law and all that it calls make is longer than what came in: it says more and counts as full. Else prove '..UptoSaid'. A law counts once. -/
mutual
def uptoBulk {H : Type} : DataW H → Nat
  | .lit (.string bytes) => bytes.length + 1
  | .lit _ => 1
  | .nil => 1
  | .ptr d => uptoBulk d + 1
  | .slice elems spare => uptoBulkAll elems + uptoBulkAll spare + 1
  | .agg parts => uptoBulkAll parts + 1
  | .iface _ d => uptoBulk d + 1
  | .map entries => uptoBulkEntries entries + 1
  | .held _ => 1
def uptoBulkAll {H : Type} : List (DataW H) → Nat
  | [] => 0
  | d :: r => uptoBulk d + uptoBulkAll r
def uptoBulkEntries {H : Type} : List (Lit × DataW H) → Nat
  | [] => 0
  | x :: r => uptoBulkEntry x + uptoBulkEntries r
def uptoBulkEntry {H : Type} : Lit × DataW H → Nat
  | (.string bytes, d) => bytes.length + uptoBulk d + 1
  | (_, d) => uptoBulk d + 1
 end
def uptoSmall : (H : Type) → List (DataW H) → Bool := fun _ ds => decide (uptoBulkAll ds ≤ 1048576)
def OpenSpec.upto (s : _root_.Go.ChangeSpec) : _root_.Go.OpenSpec := { _root_.Go.OpenSpec.ofChange s with cond := some uptoSmall }

/-- 'imagolaw22.PipesOrder', WHERE WHAT IT READS IS OF BULK AT MOST 1048576: true; the input reads as it did. -/
def pipesOrderUptoRow : OpenClaim := { program := "ytjibphpkebcoeaa", sum := "f56a4cb6c5ad33ce18018eaad193a0a27f3e90ee0ae7478afd9569cf5274c9e8", func := "imago/imagolaw22.PipesOrder", spec := "pipesOrder", apart := false, narrowed := true }
def PipesOrderUptoSaid : Prop := pipesOrderUptoRow.holds Try.pinned (OpenSpec.upto pipesOrderSpec)

/-- 'imagolaw02.FramesBack', WHERE WHAT IT READS IS OF BULK AT MOST 1048576: true; the input reads as it did. -/
def framesBackUptoRow : OpenClaim := { program := "ytjibphpkebcoeaa", sum := "f56a4cb6c5ad33ce18018eaad193a0a27f3e90ee0ae7478afd9569cf5274c9e8", func := "imago/imagolaw02.FramesBack", spec := "framesBack", apart := false, narrowed := true }
def FramesBackUptoSaid : Prop := framesBackUptoRow.holds Try.pinned (OpenSpec.upto framesBackSpec)

/-- 'imagolaw02.FramesSteps', WHERE WHAT IT READS IS OF BULK AT MOST 1048576: true; the input reads as it did. -/
def framesStepsUptoRow : OpenClaim := { program := "ytjibphpkebcoeaa", sum := "f56a4cb6c5ad33ce18018eaad193a0a27f3e90ee0ae7478afd9569cf5274c9e8", func := "imago/imagolaw02.FramesSteps", spec := "framesSteps", apart := false, narrowed := true }
def FramesStepsUptoSaid : Prop := framesStepsUptoRow.holds Try.pinned (OpenSpec.upto framesStepsSpec)

/-- 'imagolaw02.FramesApart', WHERE WHAT IT READS IS OF BULK AT MOST 1048576: true; the input reads as it did. -/
def framesApartUptoRow : OpenClaim := { program := "ytjibphpkebcoeaa", sum := "f56a4cb6c5ad33ce18018eaad193a0a27f3e90ee0ae7478afd9569cf5274c9e8", func := "imago/imagolaw02.FramesApart", spec := "framesApart", apart := false, narrowed := true }
def FramesApartUptoSaid : Prop := framesApartUptoRow.holds Try.pinned (OpenSpec.upto framesApartSpec)

/-- 'imagolaw02.FramesNil', WHERE WHAT IT READS IS OF BULK AT MOST 1048576: true; the input reads as it did. -/
def framesNilUptoRow : OpenClaim := { program := "ytjibphpkebcoeaa", sum := "f56a4cb6c5ad33ce18018eaad193a0a27f3e90ee0ae7478afd9569cf5274c9e8", func := "imago/imagolaw02.FramesNil", spec := "framesNil", apart := false, narrowed := true }
def FramesNilUptoSaid : Prop := framesNilUptoRow.holds Try.pinned (OpenSpec.upto framesNilSpec)

/-- 'imagolaw22.PipesSteps', WHERE WHAT IT READS IS OF BULK AT MOST 1048576: true; the input reads as it did. -/
def pipesStepsUptoRow : OpenClaim := { program := "ytjibphpkebcoeaa", sum := "f56a4cb6c5ad33ce18018eaad193a0a27f3e90ee0ae7478afd9569cf5274c9e8", func := "imago/imagolaw22.PipesSteps", spec := "pipesSteps", apart := false, narrowed := true }
def PipesStepsUptoSaid : Prop := pipesStepsUptoRow.holds Try.pinned (OpenSpec.upto pipesStepsSpec)

/-- 'imagolaw22.PipesApart', WHERE WHAT IT READS IS OF BULK AT MOST 1048576: true; the input reads as it did. -/
def pipesApartUptoRow : OpenClaim := { program := "ytjibphpkebcoeaa", sum := "f56a4cb6c5ad33ce18018eaad193a0a27f3e90ee0ae7478afd9569cf5274c9e8", func := "imago/imagolaw22.PipesApart", spec := "pipesApart", apart := false, narrowed := true }
def PipesApartUptoSaid : Prop := pipesApartUptoRow.holds Try.pinned (OpenSpec.upto pipesApartSpec)

/-- 'imagolaw22.PipesNil', WHERE WHAT IT READS IS OF BULK AT MOST 1048576: true; the input reads as it did. -/
def pipesNilUptoRow : OpenClaim := { program := "ytjibphpkebcoeaa", sum := "f56a4cb6c5ad33ce18018eaad193a0a27f3e90ee0ae7478afd9569cf5274c9e8", func := "imago/imagolaw22.PipesNil", spec := "pipesNil", apart := false, narrowed := true }
def PipesNilUptoSaid : Prop := pipesNilUptoRow.holds Try.pinned (OpenSpec.upto pipesNilSpec)

/-- 'imagolaw22.PipesLoad', WHERE WHAT IT READS IS OF BULK AT MOST 1048576: true; the input reads as it did. -/
def pipesLoadUptoRow : OpenClaim := { program := "ytjibphpkebcoeaa", sum := "f56a4cb6c5ad33ce18018eaad193a0a27f3e90ee0ae7478afd9569cf5274c9e8", func := "imago/imagolaw22.PipesLoad", spec := "pipesLoad", apart := false, narrowed := true }
def PipesLoadUptoSaid : Prop := pipesLoadUptoRow.holds Try.pinned (OpenSpec.upto pipesLoadSpec)

end Rows
end Go.Proofs.Ytjibphpkebcoeaa
