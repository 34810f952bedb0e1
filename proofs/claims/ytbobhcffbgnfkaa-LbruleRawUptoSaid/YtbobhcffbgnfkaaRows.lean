/-
  No cell of these rows narrows 'for every input' (looked for: loops, veiled, ifaces, maps, wideKeys, modest, calm, conditions, laid).
  DERIVED. THE GIVEN ROWS OF THIS SEAT. 6 by the template 'for every input the law returns true; each argument reads behind the call as it read before'; 0 by the template 'total and deterministic' (their statements: YtbobhcffbgnfkaaTotals.lean).
  GIVEN WITH THE SEED: the statements are not yours to turn. If you find one false, say at which input.
  Laid BY PROGRAM, IN A SANDBOX (cutbox-rows.mjs): the forced cells as the released guide's own fill.sh prints them over the translation 361213aaf658e719… (all of the seat's roots in one cut). By AI agents, Wed Nov 11 2026. No macro, syntax, notation, axiom, sorry.
-/
import Derived.Test.YtbobhcffbgnfkaaChecked
import GoSem.Claim
import GoSem.ClaimJoined
import GoSem.ClaimMapViews
import Derived.JoinedTies
import Derived.KernelRfl
namespace Go.Proofs.Ytbobhcffbgnfkaa
/- THE CELL 'sum', in the pinned program and in every row, IS THE sha256 OF THE DUMP (.gsa) THAT YtbobhcffbgnfkaaProg.lean LOADS. Nothing in Lean hashes anything: it is a label: what it is worth is what the hold of that sum in a sandbox is worth. -/
noncomputable def Try.pinned : Pinned := { name := "ytbobhcffbgnfkaa", sum := "361213aaf658e719770f3bb236bcbe5090d0639c4054faf3900b66ca11c77535", checked := Try.checked }
namespace Rows
def none {H : Type} : Left H := { results := [], args := [] }

/-- 'boustrophedonlaw20.LbruleRaw': WHATEVER THE INPUT: true; the input reads as it did. -/
def lbruleRawSpec : ChangeSpec := { name := "lbruleRaw", fn := fun _ => fun
  | [d1, d2] => { results := [.lit (.bool true)], args := [d1, d2] }
  | _ => none }
def lbruleRawRow : OpenClaim := { program := "ytbobhcffbgnfkaa", sum := "361213aaf658e719770f3bb236bcbe5090d0639c4054faf3900b66ca11c77535", func := "boustrophedon/boustrophedonlaw20.LbruleRaw", spec := "lbruleRaw", apart := false }
def LbruleRawSaid : Prop := lbruleRawRow.holds Try.pinned (OpenSpec.ofChange lbruleRawSpec)

/-- ITS FALSE NEIGHBOUR: 'it returns false'. Refute it at one input. -/
def lbruleRawWrong : ChangeSpec := { name := "lbruleRaw", fn := fun _ => fun
  | [d1, d2] => { results := [.lit (.bool false)], args := [d1, d2] }
  | _ => none }
def LbruleRawWrongFalsely : Prop := lbruleRawRow.holds Try.pinned (OpenSpec.ofChange lbruleRawWrong)

/-- 'boustrophedonlaw20.LbruleEnds': WHATEVER THE INPUT: true; the input reads as it did. -/
def lbruleEndsSpec : ChangeSpec := { name := "lbruleEnds", fn := fun _ => fun
  | [d] => { results := [.lit (.bool true)], args := [d] }
  | _ => none }
def lbruleEndsRow : OpenClaim := { program := "ytbobhcffbgnfkaa", sum := "361213aaf658e719770f3bb236bcbe5090d0639c4054faf3900b66ca11c77535", func := "boustrophedon/boustrophedonlaw20.LbruleEnds", spec := "lbruleEnds", apart := false }
def LbruleEndsSaid : Prop := lbruleEndsRow.holds Try.pinned (OpenSpec.ofChange lbruleEndsSpec)

/-- ITS FALSE NEIGHBOUR: 'it returns false'. Refute it at one input. -/
def lbruleEndsWrong : ChangeSpec := { name := "lbruleEnds", fn := fun _ => fun
  | [d] => { results := [.lit (.bool false)], args := [d] }
  | _ => none }
def LbruleEndsWrongFalsely : Prop := lbruleEndsRow.holds Try.pinned (OpenSpec.ofChange lbruleEndsWrong)

/-- 'boustrophedonlaw20.LbruleAfresh': WHATEVER THE INPUT: true; the input reads as it did. -/
def lbruleAfreshSpec : ChangeSpec := { name := "lbruleAfresh", fn := fun _ => fun
  | [d1, d2] => { results := [.lit (.bool true)], args := [d1, d2] }
  | _ => none }
def lbruleAfreshRow : OpenClaim := { program := "ytbobhcffbgnfkaa", sum := "361213aaf658e719770f3bb236bcbe5090d0639c4054faf3900b66ca11c77535", func := "boustrophedon/boustrophedonlaw20.LbruleAfresh", spec := "lbruleAfresh", apart := false }
def LbruleAfreshSaid : Prop := lbruleAfreshRow.holds Try.pinned (OpenSpec.ofChange lbruleAfreshSpec)

/-- ITS FALSE NEIGHBOUR: 'it returns false'. Refute it at one input. -/
def lbruleAfreshWrong : ChangeSpec := { name := "lbruleAfresh", fn := fun _ => fun
  | [d1, d2] => { results := [.lit (.bool false)], args := [d1, d2] }
  | _ => none }
def LbruleAfreshWrongFalsely : Prop := lbruleAfreshRow.holds Try.pinned (OpenSpec.ofChange lbruleAfreshWrong)

/-- 'boustrophedonlaw20.LbruleSpaces': WHATEVER THE INPUT: true; the input reads as it did. -/
def lbruleSpacesSpec : ChangeSpec := { name := "lbruleSpaces", fn := fun _ => fun
  | [d1, d2, d3] => { results := [.lit (.bool true)], args := [d1, d2, d3] }
  | _ => none }
def lbruleSpacesRow : OpenClaim := { program := "ytbobhcffbgnfkaa", sum := "361213aaf658e719770f3bb236bcbe5090d0639c4054faf3900b66ca11c77535", func := "boustrophedon/boustrophedonlaw20.LbruleSpaces", spec := "lbruleSpaces", apart := false }
def LbruleSpacesSaid : Prop := lbruleSpacesRow.holds Try.pinned (OpenSpec.ofChange lbruleSpacesSpec)

/-- ITS FALSE NEIGHBOUR: 'it returns false'. Refute it at one input. -/
def lbruleSpacesWrong : ChangeSpec := { name := "lbruleSpaces", fn := fun _ => fun
  | [d1, d2, d3] => { results := [.lit (.bool false)], args := [d1, d2, d3] }
  | _ => none }
def LbruleSpacesWrongFalsely : Prop := lbruleSpacesRow.holds Try.pinned (OpenSpec.ofChange lbruleSpacesWrong)

/-- 'boustrophedonlaw20.LbruleAhead': WHATEVER THE INPUT: true; the input reads as it did. -/
def lbruleAheadSpec : ChangeSpec := { name := "lbruleAhead", fn := fun _ => fun
  | [d1, d2] => { results := [.lit (.bool true)], args := [d1, d2] }
  | _ => none }
def lbruleAheadRow : OpenClaim := { program := "ytbobhcffbgnfkaa", sum := "361213aaf658e719770f3bb236bcbe5090d0639c4054faf3900b66ca11c77535", func := "boustrophedon/boustrophedonlaw20.LbruleAhead", spec := "lbruleAhead", apart := false }
def LbruleAheadSaid : Prop := lbruleAheadRow.holds Try.pinned (OpenSpec.ofChange lbruleAheadSpec)

/-- ITS FALSE NEIGHBOUR: 'it returns false'. Refute it at one input. -/
def lbruleAheadWrong : ChangeSpec := { name := "lbruleAhead", fn := fun _ => fun
  | [d1, d2] => { results := [.lit (.bool false)], args := [d1, d2] }
  | _ => none }
def LbruleAheadWrongFalsely : Prop := lbruleAheadRow.holds Try.pinned (OpenSpec.ofChange lbruleAheadWrong)

/-- 'boustrophedonlaw20.LbruleBetween': WHATEVER THE INPUT: true; the input reads as it did. -/
def lbruleBetweenSpec : ChangeSpec := { name := "lbruleBetween", fn := fun _ => fun
  | [d] => { results := [.lit (.bool true)], args := [d] }
  | _ => none }
def lbruleBetweenRow : OpenClaim := { program := "ytbobhcffbgnfkaa", sum := "361213aaf658e719770f3bb236bcbe5090d0639c4054faf3900b66ca11c77535", func := "boustrophedon/boustrophedonlaw20.LbruleBetween", spec := "lbruleBetween", apart := false }
def LbruleBetweenSaid : Prop := lbruleBetweenRow.holds Try.pinned (OpenSpec.ofChange lbruleBetweenSpec)

/-- ITS FALSE NEIGHBOUR: 'it returns false'. Refute it at one input. -/
def lbruleBetweenWrong : ChangeSpec := { name := "lbruleBetween", fn := fun _ => fun
  | [d] => { results := [.lit (.bool false)], args := [d] }
  | _ => none }
def LbruleBetweenWrongFalsely : Prop := lbruleBetweenRow.holds Try.pinned (OpenSpec.ofChange lbruleBetweenWrong)

/- THE SECOND FORM. 'bulk': how many values and letters a reading holds, each counted each time it is reached (what is shared counts as often as it is met; a slice's spare places count too). A statement '..UptoSaid' is the law's where the arguments, and the package variables that the reading takes, are together of bulk at most 1048576: NARROWER than '..Said'. Prove '..Said' where nothing that the law and all that it calls make is longer than what came in: it says more and counts as full. Else prove '..UptoSaid'. A law counts once. -/
mutual
def uptoBulk {H : Type} : DataW H → Nat
  | .lit (.string bytes) => bytes.length + 1
  | .lit _ => 1
  | .nil => 1
  | .ptr d => uptoBulk d + 1
  | .slice elems spare => uptoBulkAll elems + uptoBulkAll spare + 1
  | .agg parts => uptoBulkAll parts + 1
  | .iface _ d => uptoBulk d + 1
  | .map entries => uptoBulkEntries entries + 1
  | .held _ => 1
def uptoBulkAll {H : Type} : List (DataW H) → Nat
  | [] => 0
  | d :: r => uptoBulk d + uptoBulkAll r
def uptoBulkEntries {H : Type} : List (Lit × DataW H) → Nat
  | [] => 0
  | x :: r => uptoBulkEntry x + uptoBulkEntries r
def uptoBulkEntry {H : Type} : Lit × DataW H → Nat
  | (.string bytes, d) => bytes.length + uptoBulk d + 1
  | (_, d) => uptoBulk d + 1
 end
def uptoSmall : (H : Type) → List (DataW H) → Bool := fun _ ds => decide (uptoBulkAll ds ≤ 1048576)
def OpenSpec.upto (s : _root_.Go.ChangeSpec) : _root_.Go.OpenSpec := { _root_.Go.OpenSpec.ofChange s with cond := some uptoSmall }

/-- 'boustrophedonlaw20.LbruleRaw', WHERE WHAT IT READS IS OF BULK AT MOST 1048576: true; the input reads as it did. -/
def lbruleRawUptoRow : OpenClaim := { program := "ytbobhcffbgnfkaa", sum := "361213aaf658e719770f3bb236bcbe5090d0639c4054faf3900b66ca11c77535", func := "boustrophedon/boustrophedonlaw20.LbruleRaw", spec := "lbruleRaw", apart := false, narrowed := true }
def LbruleRawUptoSaid : Prop := lbruleRawUptoRow.holds Try.pinned (OpenSpec.upto lbruleRawSpec)

/-- 'boustrophedonlaw20.LbruleEnds', WHERE WHAT IT READS IS OF BULK AT MOST 1048576: true; the input reads as it did. -/
def lbruleEndsUptoRow : OpenClaim := { program := "ytbobhcffbgnfkaa", sum := "361213aaf658e719770f3bb236bcbe5090d0639c4054faf3900b66ca11c77535", func := "boustrophedon/boustrophedonlaw20.LbruleEnds", spec := "lbruleEnds", apart := false, narrowed := true }
def LbruleEndsUptoSaid : Prop := lbruleEndsUptoRow.holds Try.pinned (OpenSpec.upto lbruleEndsSpec)

/-- 'boustrophedonlaw20.LbruleAfresh', WHERE WHAT IT READS IS OF BULK AT MOST 1048576: true; the input reads as it did. -/
def lbruleAfreshUptoRow : OpenClaim := { program := "ytbobhcffbgnfkaa", sum := "361213aaf658e719770f3bb236bcbe5090d0639c4054faf3900b66ca11c77535", func := "boustrophedon/boustrophedonlaw20.LbruleAfresh", spec := "lbruleAfresh", apart := false, narrowed := true }
def LbruleAfreshUptoSaid : Prop := lbruleAfreshUptoRow.holds Try.pinned (OpenSpec.upto lbruleAfreshSpec)

/-- 'boustrophedonlaw20.LbruleSpaces', WHERE WHAT IT READS IS OF BULK AT MOST 1048576: true; the input reads as it did. -/
def lbruleSpacesUptoRow : OpenClaim := { program := "ytbobhcffbgnfkaa", sum := "361213aaf658e719770f3bb236bcbe5090d0639c4054faf3900b66ca11c77535", func := "boustrophedon/boustrophedonlaw20.LbruleSpaces", spec := "lbruleSpaces", apart := false, narrowed := true }
def LbruleSpacesUptoSaid : Prop := lbruleSpacesUptoRow.holds Try.pinned (OpenSpec.upto lbruleSpacesSpec)

/-- 'boustrophedonlaw20.LbruleAhead', WHERE WHAT IT READS IS OF BULK AT MOST 1048576: true; the input reads as it did. -/
def lbruleAheadUptoRow : OpenClaim := { program := "ytbobhcffbgnfkaa", sum := "361213aaf658e719770f3bb236bcbe5090d0639c4054faf3900b66ca11c77535", func := "boustrophedon/boustrophedonlaw20.LbruleAhead", spec := "lbruleAhead", apart := false, narrowed := true }
def LbruleAheadUptoSaid : Prop := lbruleAheadUptoRow.holds Try.pinned (OpenSpec.upto lbruleAheadSpec)

/-- 'boustrophedonlaw20.LbruleBetween', WHERE WHAT IT READS IS OF BULK AT MOST 1048576: true; the input reads as it did. -/
def lbruleBetweenUptoRow : OpenClaim := { program := "ytbobhcffbgnfkaa", sum := "361213aaf658e719770f3bb236bcbe5090d0639c4054faf3900b66ca11c77535", func := "boustrophedon/boustrophedonlaw20.LbruleBetween", spec := "lbruleBetween", apart := false, narrowed := true }
def LbruleBetweenUptoSaid : Prop := lbruleBetweenUptoRow.holds Try.pinned (OpenSpec.upto lbruleBetweenSpec)

end Rows
end Go.Proofs.Ytbobhcffbgnfkaa
