/-
  No cell of these rows narrows 'for every input' (looked for: loops, veiled, ifaces, maps, wideKeys, modest, calm, conditions, laid).
  DERIVED. THE GIVEN ROWS OF THIS SEAT. 3 by the template 'for every input the law returns true; each argument reads behind the call as it read before'; 0 by the template 'total and deterministic' (their statements: YtolmamcpjapdkaaTotals.lean).
  GIVEN WITH THE SEED: the statements are not yours to turn. If you find one false, say at which input.
  Laid BY PROGRAM, IN A SANDBOX (cutbox-rows.mjs): the forced cells as the released guide's own fill.sh prints them over the translation 41df80e4d5eda4b2… (all of the seat's roots in one cut). By AI agents, Wed Nov 11 2026. No macro, syntax, notation, axiom, sorry.
-/
import Derived.Test.YtolmamcpjapdkaaChecked
import GoSem.Claim
import GoSem.ClaimJoined
import GoSem.ClaimMapViews
import Derived.JoinedTies
import Derived.KernelRfl
namespace Go.Proofs.Ytolmamcpjapdkaa
/- THE CELL 'sum', in the pinned program and in every row, IS THE sha256 OF THE DUMP (.gsa) THAT YtolmamcpjapdkaaProg.lean LOADS. Nothing in Lean hashes anything: it is a label: what it is worth is what the hold of that sum in a sandbox is worth. -/
noncomputable def Try.pinned : Pinned := { name := "ytolmamcpjapdkaa", sum := "41df80e4d5eda4b242961565b9678f1a58391b363a06c518d940e909734d4dd4", checked := Try.checked }
namespace Rows
def none {H : Type} : Left H := { results := [], args := [] }

/-- 'boustrophedonlaw07.CellwOf': WHATEVER THE INPUT: true; the input reads as it did. -/
def cellwOfSpec : ChangeSpec := { name := "cellwOf", fn := fun _ => fun
  | [d1, d2] => { results := [.lit (.bool true)], args := [d1, d2] }
  | _ => none }
def cellwOfRow : OpenClaim := { program := "ytolmamcpjapdkaa", sum := "41df80e4d5eda4b242961565b9678f1a58391b363a06c518d940e909734d4dd4", func := "boustrophedon/boustrophedonlaw07.CellwOf", spec := "cellwOf", apart := false }
def CellwOfSaid : Prop := cellwOfRow.holds Try.pinned (OpenSpec.ofChange cellwOfSpec)

/-- ITS FALSE NEIGHBOUR: 'it returns false'. Refute it at one input. -/
def cellwOfWrong : ChangeSpec := { name := "cellwOf", fn := fun _ => fun
  | [d1, d2] => { results := [.lit (.bool false)], args := [d1, d2] }
  | _ => none }
def CellwOfWrongFalsely : Prop := cellwOfRow.holds Try.pinned (OpenSpec.ofChange cellwOfWrong)

/-- 'boustrophedonlaw07.CellwSum': WHATEVER THE INPUT: true; the input reads as it did. -/
def cellwSumSpec : ChangeSpec := { name := "cellwSum", fn := fun _ => fun
  | [d1, d2] => { results := [.lit (.bool true)], args := [d1, d2] }
  | _ => none }
def cellwSumRow : OpenClaim := { program := "ytolmamcpjapdkaa", sum := "41df80e4d5eda4b242961565b9678f1a58391b363a06c518d940e909734d4dd4", func := "boustrophedon/boustrophedonlaw07.CellwSum", spec := "cellwSum", apart := false }
def CellwSumSaid : Prop := cellwSumRow.holds Try.pinned (OpenSpec.ofChange cellwSumSpec)

/-- ITS FALSE NEIGHBOUR: 'it returns false'. Refute it at one input. -/
def cellwSumWrong : ChangeSpec := { name := "cellwSum", fn := fun _ => fun
  | [d1, d2] => { results := [.lit (.bool false)], args := [d1, d2] }
  | _ => none }
def CellwSumWrongFalsely : Prop := cellwSumRow.holds Try.pinned (OpenSpec.ofChange cellwSumWrong)

/-- 'boustrophedonlaw07.CellwParts': WHATEVER THE INPUT: true; the input reads as it did. -/
def cellwPartsSpec : ChangeSpec := { name := "cellwParts", fn := fun _ => fun
  | [d1, d2] => { results := [.lit (.bool true)], args := [d1, d2] }
  | _ => none }
def cellwPartsRow : OpenClaim := { program := "ytolmamcpjapdkaa", sum := "41df80e4d5eda4b242961565b9678f1a58391b363a06c518d940e909734d4dd4", func := "boustrophedon/boustrophedonlaw07.CellwParts", spec := "cellwParts", apart := false }
def CellwPartsSaid : Prop := cellwPartsRow.holds Try.pinned (OpenSpec.ofChange cellwPartsSpec)

/-- ITS FALSE NEIGHBOUR: 'it returns false'. Refute it at one input. -/
def cellwPartsWrong : ChangeSpec := { name := "cellwParts", fn := fun _ => fun
  | [d1, d2] => { results := [.lit (.bool false)], args := [d1, d2] }
  | _ => none }
def CellwPartsWrongFalsely : Prop := cellwPartsRow.holds Try.pinned (OpenSpec.ofChange cellwPartsWrong)

/- THE SECOND FORM. 'bulk': how many values and letters a reading holds, each counted each time it is reached (what is shared counts as often as it is met; a slice's spare places count too). A statement '..UptoSaid' is the law's where the arguments, and the package variables that the reading takes, are together of bulk at most 1048576: NARROWER than '..Said'. Prove '..Said' where nothing that the law and all that it calls make is longer than what came in: it says more and counts as full. Else prove '..UptoSaid'. A law counts once. -/
mutual
def uptoBulk {H : Type} : DataW H → Nat
  | .lit (.string bytes) => bytes.length + 1
  | .lit _ => 1
  | .nil => 1
  | .ptr d => uptoBulk d + 1
  | .slice elems spare => uptoBulkAll elems + uptoBulkAll spare + 1
  | .agg parts => uptoBulkAll parts + 1
  | .iface _ d => uptoBulk d + 1
  | .map entries => uptoBulkEntries entries + 1
  | .held _ => 1
def uptoBulkAll {H : Type} : List (DataW H) → Nat
  | [] => 0
  | d :: r => uptoBulk d + uptoBulkAll r
def uptoBulkEntries {H : Type} : List (Lit × DataW H) → Nat
  | [] => 0
  | x :: r => uptoBulkEntry x + uptoBulkEntries r
def uptoBulkEntry {H : Type} : Lit × DataW H → Nat
  | (.string bytes, d) => bytes.length + uptoBulk d + 1
  | (_, d) => uptoBulk d + 1
 end
def uptoSmall : (H : Type) → List (DataW H) → Bool := fun _ ds => decide (uptoBulkAll ds ≤ 1048576)
def OpenSpec.upto (s : _root_.Go.ChangeSpec) : _root_.Go.OpenSpec := { _root_.Go.OpenSpec.ofChange s with cond := some uptoSmall }

/-- 'boustrophedonlaw07.CellwOf', WHERE WHAT IT READS IS OF BULK AT MOST 1048576: true; the input reads as it did. -/
def cellwOfUptoRow : OpenClaim := { program := "ytolmamcpjapdkaa", sum := "41df80e4d5eda4b242961565b9678f1a58391b363a06c518d940e909734d4dd4", func := "boustrophedon/boustrophedonlaw07.CellwOf", spec := "cellwOf", apart := false, narrowed := true }
def CellwOfUptoSaid : Prop := cellwOfUptoRow.holds Try.pinned (OpenSpec.upto cellwOfSpec)

/-- 'boustrophedonlaw07.CellwSum', WHERE WHAT IT READS IS OF BULK AT MOST 1048576: true; the input reads as it did. -/
def cellwSumUptoRow : OpenClaim := { program := "ytolmamcpjapdkaa", sum := "41df80e4d5eda4b242961565b9678f1a58391b363a06c518d940e909734d4dd4", func := "boustrophedon/boustrophedonlaw07.CellwSum", spec := "cellwSum", apart := false, narrowed := true }
def CellwSumUptoSaid : Prop := cellwSumUptoRow.holds Try.pinned (OpenSpec.upto cellwSumSpec)

/-- 'boustrophedonlaw07.CellwParts', WHERE WHAT IT READS IS OF BULK AT MOST 1048576: true; the input reads as it did. -/
def cellwPartsUptoRow : OpenClaim := { program := "ytolmamcpjapdkaa", sum := "41df80e4d5eda4b242961565b9678f1a58391b363a06c518d940e909734d4dd4", func := "boustrophedon/boustrophedonlaw07.CellwParts", spec := "cellwParts", apart := false, narrowed := true }
def CellwPartsUptoSaid : Prop := cellwPartsUptoRow.holds Try.pinned (OpenSpec.upto cellwPartsSpec)

end Rows
end Go.Proofs.Ytolmamcpjapdkaa
