/-
  No cell of these rows narrows 'for every input' (looked for: loops, veiled, ifaces, maps, wideKeys, modest, calm, conditions, laid).
  DERIVED. THE GIVEN ROWS OF THIS SEAT. 11 by the template 'for every input the law returns true; each argument reads behind the call as it read before'; 0 by the template 'total and deterministic' (their statements: YtgkmpndebcdigaaTotals.lean).
  GIVEN WITH THE SEED: the statements are not yours to turn. If you find one false, say at which input.
  Laid BY PROGRAM, IN A SANDBOX (cutbox-rows.mjs): the forced cells as the released guide's own fill.sh prints them over the translation 8e91e2ef6984ed93… (all of the seat's roots in one cut). By AI agents, Wed Nov 11 2026. No macro, syntax, notation, axiom, sorry.
-/
import Derived.Test.YtgkmpndebcdigaaChecked
import GoSem.Claim
import GoSem.ClaimJoined
import GoSem.ClaimMapViews
import Derived.JoinedTies
import Derived.KernelRfl
namespace Go.Proofs.Ytgkmpndebcdigaa
/- THE CELL 'sum', in the pinned program and in every row, IS THE sha256 OF THE DUMP (.gsa) THAT YtgkmpndebcdigaaProg.lean LOADS. Nothing in Lean hashes anything: it is a label: what it is worth is what the hold of that sum in a sandbox is worth. -/
noncomputable def Try.pinned : Pinned := { name := "ytgkmpndebcdigaa", sum := "8e91e2ef6984ed9331074cdd30668893ffd6debebbda7618f6cdd3f862e35036", checked := Try.checked }
namespace Rows
def none {H : Type} : Left H := { results := [], args := [] }

/-- 'boustrophedonlaw09.IsolateMatches': WHATEVER THE INPUT: true; the input reads as it did. -/
def isolateMatchesSpec : ChangeSpec := { name := "isolateMatches", fn := fun _ => fun
  | [d] => { results := [.lit (.bool true)], args := [d] }
  | _ => none }
def isolateMatchesRow : OpenClaim := { program := "ytgkmpndebcdigaa", sum := "8e91e2ef6984ed9331074cdd30668893ffd6debebbda7618f6cdd3f862e35036", func := "boustrophedon/boustrophedonlaw09.IsolateMatches", spec := "isolateMatches", apart := false }
def IsolateMatchesSaid : Prop := isolateMatchesRow.holds Try.pinned (OpenSpec.ofChange isolateMatchesSpec)

/-- ITS FALSE NEIGHBOUR: 'it returns false'. Refute it at one input. -/
def isolateMatchesWrong : ChangeSpec := { name := "isolateMatches", fn := fun _ => fun
  | [d] => { results := [.lit (.bool false)], args := [d] }
  | _ => none }
def IsolateMatchesWrongFalsely : Prop := isolateMatchesRow.holds Try.pinned (OpenSpec.ofChange isolateMatchesWrong)

/-- 'boustrophedonlaw09.IsolateBoth': WHATEVER THE INPUT: true; the input reads as it did. -/
def isolateBothSpec : ChangeSpec := { name := "isolateBoth", fn := fun _ => fun
  | [d] => { results := [.lit (.bool true)], args := [d] }
  | _ => none }
def isolateBothRow : OpenClaim := { program := "ytgkmpndebcdigaa", sum := "8e91e2ef6984ed9331074cdd30668893ffd6debebbda7618f6cdd3f862e35036", func := "boustrophedon/boustrophedonlaw09.IsolateBoth", spec := "isolateBoth", apart := false }
def IsolateBothSaid : Prop := isolateBothRow.holds Try.pinned (OpenSpec.ofChange isolateBothSpec)

/-- ITS FALSE NEIGHBOUR: 'it returns false'. Refute it at one input. -/
def isolateBothWrong : ChangeSpec := { name := "isolateBoth", fn := fun _ => fun
  | [d] => { results := [.lit (.bool false)], args := [d] }
  | _ => none }
def IsolateBothWrongFalsely : Prop := isolateBothRow.holds Try.pinned (OpenSpec.ofChange isolateBothWrong)

/-- 'boustrophedonlaw09.IsolateRest': WHATEVER THE INPUT: true; the input reads as it did. -/
def isolateRestSpec : ChangeSpec := { name := "isolateRest", fn := fun _ => fun
  | [d] => { results := [.lit (.bool true)], args := [d] }
  | _ => none }
def isolateRestRow : OpenClaim := { program := "ytgkmpndebcdigaa", sum := "8e91e2ef6984ed9331074cdd30668893ffd6debebbda7618f6cdd3f862e35036", func := "boustrophedon/boustrophedonlaw09.IsolateRest", spec := "isolateRest", apart := false }
def IsolateRestSaid : Prop := isolateRestRow.holds Try.pinned (OpenSpec.ofChange isolateRestSpec)

/-- ITS FALSE NEIGHBOUR: 'it returns false'. Refute it at one input. -/
def isolateRestWrong : ChangeSpec := { name := "isolateRest", fn := fun _ => fun
  | [d] => { results := [.lit (.bool false)], args := [d] }
  | _ => none }
def IsolateRestWrongFalsely : Prop := isolateRestRow.holds Try.pinned (OpenSpec.ofChange isolateRestWrong)

/-- 'boustrophedonlaw09.IsolateAhead': WHATEVER THE INPUT: true; the input reads as it did. -/
def isolateAheadSpec : ChangeSpec := { name := "isolateAhead", fn := fun _ => fun
  | [d1, d2] => { results := [.lit (.bool true)], args := [d1, d2] }
  | _ => none }
def isolateAheadRow : OpenClaim := { program := "ytgkmpndebcdigaa", sum := "8e91e2ef6984ed9331074cdd30668893ffd6debebbda7618f6cdd3f862e35036", func := "boustrophedon/boustrophedonlaw09.IsolateAhead", spec := "isolateAhead", apart := false }
def IsolateAheadSaid : Prop := isolateAheadRow.holds Try.pinned (OpenSpec.ofChange isolateAheadSpec)

/-- ITS FALSE NEIGHBOUR: 'it returns false'. Refute it at one input. -/
def isolateAheadWrong : ChangeSpec := { name := "isolateAhead", fn := fun _ => fun
  | [d1, d2] => { results := [.lit (.bool false)], args := [d1, d2] }
  | _ => none }
def IsolateAheadWrongFalsely : Prop := isolateAheadRow.holds Try.pinned (OpenSpec.ofChange isolateAheadWrong)

/-- 'boustrophedonlaw24.RelevelOf': WHATEVER THE INPUT: true; the input reads as it did. -/
def relevelOfSpec : ChangeSpec := { name := "relevelOf", fn := fun _ => fun
  | [d1, d2, d3] => { results := [.lit (.bool true)], args := [d1, d2, d3] }
  | _ => none }
def relevelOfRow : OpenClaim := { program := "ytgkmpndebcdigaa", sum := "8e91e2ef6984ed9331074cdd30668893ffd6debebbda7618f6cdd3f862e35036", func := "boustrophedon/boustrophedonlaw24.RelevelOf", spec := "relevelOf", apart := false }
def RelevelOfSaid : Prop := relevelOfRow.holds Try.pinned (OpenSpec.ofChange relevelOfSpec)

/-- ITS FALSE NEIGHBOUR: 'it returns false'. Refute it at one input. -/
def relevelOfWrong : ChangeSpec := { name := "relevelOf", fn := fun _ => fun
  | [d1, d2, d3] => { results := [.lit (.bool false)], args := [d1, d2, d3] }
  | _ => none }
def RelevelOfWrongFalsely : Prop := relevelOfRow.holds Try.pinned (OpenSpec.ofChange relevelOfWrong)

/-- 'boustrophedonlaw24.RelevelTwice': WHATEVER THE INPUT: true; the input reads as it did. -/
def relevelTwiceSpec : ChangeSpec := { name := "relevelTwice", fn := fun _ => fun
  | [d1, d2, d3] => { results := [.lit (.bool true)], args := [d1, d2, d3] }
  | _ => none }
def relevelTwiceRow : OpenClaim := { program := "ytgkmpndebcdigaa", sum := "8e91e2ef6984ed9331074cdd30668893ffd6debebbda7618f6cdd3f862e35036", func := "boustrophedon/boustrophedonlaw24.RelevelTwice", spec := "relevelTwice", apart := false }
def RelevelTwiceSaid : Prop := relevelTwiceRow.holds Try.pinned (OpenSpec.ofChange relevelTwiceSpec)

/-- ITS FALSE NEIGHBOUR: 'it returns false'. Refute it at one input. -/
def relevelTwiceWrong : ChangeSpec := { name := "relevelTwice", fn := fun _ => fun
  | [d1, d2, d3] => { results := [.lit (.bool false)], args := [d1, d2, d3] }
  | _ => none }
def RelevelTwiceWrongFalsely : Prop := relevelTwiceRow.holds Try.pinned (OpenSpec.ofChange relevelTwiceWrong)

/-- 'boustrophedonlaw24.RelevelEnds': WHATEVER THE INPUT: true; the input reads as it did. -/
def relevelEndsSpec : ChangeSpec := { name := "relevelEnds", fn := fun _ => fun
  | [d1, d2, d3] => { results := [.lit (.bool true)], args := [d1, d2, d3] }
  | _ => none }
def relevelEndsRow : OpenClaim := { program := "ytgkmpndebcdigaa", sum := "8e91e2ef6984ed9331074cdd30668893ffd6debebbda7618f6cdd3f862e35036", func := "boustrophedon/boustrophedonlaw24.RelevelEnds", spec := "relevelEnds", apart := false }
def RelevelEndsSaid : Prop := relevelEndsRow.holds Try.pinned (OpenSpec.ofChange relevelEndsSpec)

/-- ITS FALSE NEIGHBOUR: 'it returns false'. Refute it at one input. -/
def relevelEndsWrong : ChangeSpec := { name := "relevelEnds", fn := fun _ => fun
  | [d1, d2, d3] => { results := [.lit (.bool false)], args := [d1, d2, d3] }
  | _ => none }
def RelevelEndsWrongFalsely : Prop := relevelEndsRow.holds Try.pinned (OpenSpec.ofChange relevelEndsWrong)

/-- 'boustrophedonlaw19.LboneUnits': WHATEVER THE INPUT: true; the input reads as it did. -/
def lboneUnitsSpec : ChangeSpec := { name := "lboneUnits", fn := fun _ => fun
  | [d1, d2] => { results := [.lit (.bool true)], args := [d1, d2] }
  | _ => none }
def lboneUnitsRow : OpenClaim := { program := "ytgkmpndebcdigaa", sum := "8e91e2ef6984ed9331074cdd30668893ffd6debebbda7618f6cdd3f862e35036", func := "boustrophedon/boustrophedonlaw19.LboneUnits", spec := "lboneUnits", apart := false }
def LboneUnitsSaid : Prop := lboneUnitsRow.holds Try.pinned (OpenSpec.ofChange lboneUnitsSpec)

/-- ITS FALSE NEIGHBOUR: 'it returns false'. Refute it at one input. -/
def lboneUnitsWrong : ChangeSpec := { name := "lboneUnits", fn := fun _ => fun
  | [d1, d2] => { results := [.lit (.bool false)], args := [d1, d2] }
  | _ => none }
def LboneUnitsWrongFalsely : Prop := lboneUnitsRow.holds Try.pinned (OpenSpec.ofChange lboneUnitsWrong)

/-- 'boustrophedonlaw19.LboneClass': WHATEVER THE INPUT: true; the input reads as it did. -/
def lboneClassSpec : ChangeSpec := { name := "lboneClass", fn := fun _ => fun
  | [d] => { results := [.lit (.bool true)], args := [d] }
  | _ => none }
def lboneClassRow : OpenClaim := { program := "ytgkmpndebcdigaa", sum := "8e91e2ef6984ed9331074cdd30668893ffd6debebbda7618f6cdd3f862e35036", func := "boustrophedon/boustrophedonlaw19.LboneClass", spec := "lboneClass", apart := false }
def LboneClassSaid : Prop := lboneClassRow.holds Try.pinned (OpenSpec.ofChange lboneClassSpec)

/-- ITS FALSE NEIGHBOUR: 'it returns false'. Refute it at one input. -/
def lboneClassWrong : ChangeSpec := { name := "lboneClass", fn := fun _ => fun
  | [d] => { results := [.lit (.bool false)], args := [d] }
  | _ => none }
def LboneClassWrongFalsely : Prop := lboneClassRow.holds Try.pinned (OpenSpec.ofChange lboneClassWrong)

/-- 'boustrophedonlaw19.LboneMarks': WHATEVER THE INPUT: true; the input reads as it did. -/
def lboneMarksSpec : ChangeSpec := { name := "lboneMarks", fn := fun _ => fun
  | [d1, d2] => { results := [.lit (.bool true)], args := [d1, d2] }
  | _ => none }
def lboneMarksRow : OpenClaim := { program := "ytgkmpndebcdigaa", sum := "8e91e2ef6984ed9331074cdd30668893ffd6debebbda7618f6cdd3f862e35036", func := "boustrophedon/boustrophedonlaw19.LboneMarks", spec := "lboneMarks", apart := false }
def LboneMarksSaid : Prop := lboneMarksRow.holds Try.pinned (OpenSpec.ofChange lboneMarksSpec)

/-- ITS FALSE NEIGHBOUR: 'it returns false'. Refute it at one input. -/
def lboneMarksWrong : ChangeSpec := { name := "lboneMarks", fn := fun _ => fun
  | [d1, d2] => { results := [.lit (.bool false)], args := [d1, d2] }
  | _ => none }
def LboneMarksWrongFalsely : Prop := lboneMarksRow.holds Try.pinned (OpenSpec.ofChange lboneMarksWrong)

/-- 'boustrophedonlaw19.LboneParts': WHATEVER THE INPUT: true; the input reads as it did. -/
def lbonePartsSpec : ChangeSpec := { name := "lboneParts", fn := fun _ => fun
  | [d1, d2] => { results := [.lit (.bool true)], args := [d1, d2] }
  | _ => none }
def lbonePartsRow : OpenClaim := { program := "ytgkmpndebcdigaa", sum := "8e91e2ef6984ed9331074cdd30668893ffd6debebbda7618f6cdd3f862e35036", func := "boustrophedon/boustrophedonlaw19.LboneParts", spec := "lboneParts", apart := false }
def LbonePartsSaid : Prop := lbonePartsRow.holds Try.pinned (OpenSpec.ofChange lbonePartsSpec)

/-- ITS FALSE NEIGHBOUR: 'it returns false'. Refute it at one input. -/
def lbonePartsWrong : ChangeSpec := { name := "lboneParts", fn := fun _ => fun
  | [d1, d2] => { results := [.lit (.bool false)], args := [d1, d2] }
  | _ => none }
def LbonePartsWrongFalsely : Prop := lbonePartsRow.holds Try.pinned (OpenSpec.ofChange lbonePartsWrong)

/- THE SECOND FORM. 'bulk': how many values and letters a reading holds, each counted each time it is reached (what is shared counts as often as it is met; a slice's spare places count too). A statement '..UptoSaid' is the law's where the arguments, and the package variables that the reading takes, are together of bulk at most 1048576: NARROWER than '..Said'. Prove '..Said' where nothing that the law and all that it calls make is longer than what came in: it says more and counts as full. Else prove '..UptoSaid'. A law counts once. -/
mutual
def uptoBulk {H : Type} : DataW H → Nat
  | .lit (.string bytes) => bytes.length + 1
  | .lit _ => 1
  | .nil => 1
  | .ptr d => uptoBulk d + 1
  | .slice elems spare => uptoBulkAll elems + uptoBulkAll spare + 1
  | .agg parts => uptoBulkAll parts + 1
  | .iface _ d => uptoBulk d + 1
  | .map entries => uptoBulkEntries entries + 1
  | .held _ => 1
def uptoBulkAll {H : Type} : List (DataW H) → Nat
  | [] => 0
  | d :: r => uptoBulk d + uptoBulkAll r
def uptoBulkEntries {H : Type} : List (Lit × DataW H) → Nat
  | [] => 0
  | x :: r => uptoBulkEntry x + uptoBulkEntries r
def uptoBulkEntry {H : Type} : Lit × DataW H → Nat
  | (.string bytes, d) => bytes.length + uptoBulk d + 1
  | (_, d) => uptoBulk d + 1
 end
def uptoSmall : (H : Type) → List (DataW H) → Bool := fun _ ds => decide (uptoBulkAll ds ≤ 1048576)
def OpenSpec.upto (s : _root_.Go.ChangeSpec) : _root_.Go.OpenSpec := { _root_.Go.OpenSpec.ofChange s with cond := some uptoSmall }

/-- 'boustrophedonlaw09.IsolateMatches', WHERE WHAT IT READS IS OF BULK AT MOST 1048576: true; the input reads as it did. -/
def isolateMatchesUptoRow : OpenClaim := { program := "ytgkmpndebcdigaa", sum := "8e91e2ef6984ed9331074cdd30668893ffd6debebbda7618f6cdd3f862e35036", func := "boustrophedon/boustrophedonlaw09.IsolateMatches", spec := "isolateMatches", apart := false, narrowed := true }
def IsolateMatchesUptoSaid : Prop := isolateMatchesUptoRow.holds Try.pinned (OpenSpec.upto isolateMatchesSpec)

/-- 'boustrophedonlaw09.IsolateBoth', WHERE WHAT IT READS IS OF BULK AT MOST 1048576: true; the input reads as it did. -/
def isolateBothUptoRow : OpenClaim := { program := "ytgkmpndebcdigaa", sum := "8e91e2ef6984ed9331074cdd30668893ffd6debebbda7618f6cdd3f862e35036", func := "boustrophedon/boustrophedonlaw09.IsolateBoth", spec := "isolateBoth", apart := false, narrowed := true }
def IsolateBothUptoSaid : Prop := isolateBothUptoRow.holds Try.pinned (OpenSpec.upto isolateBothSpec)

/-- 'boustrophedonlaw09.IsolateRest', WHERE WHAT IT READS IS OF BULK AT MOST 1048576: true; the input reads as it did. -/
def isolateRestUptoRow : OpenClaim := { program := "ytgkmpndebcdigaa", sum := "8e91e2ef6984ed9331074cdd30668893ffd6debebbda7618f6cdd3f862e35036", func := "boustrophedon/boustrophedonlaw09.IsolateRest", spec := "isolateRest", apart := false, narrowed := true }
def IsolateRestUptoSaid : Prop := isolateRestUptoRow.holds Try.pinned (OpenSpec.upto isolateRestSpec)

/-- 'boustrophedonlaw09.IsolateAhead', WHERE WHAT IT READS IS OF BULK AT MOST 1048576: true; the input reads as it did. -/
def isolateAheadUptoRow : OpenClaim := { program := "ytgkmpndebcdigaa", sum := "8e91e2ef6984ed9331074cdd30668893ffd6debebbda7618f6cdd3f862e35036", func := "boustrophedon/boustrophedonlaw09.IsolateAhead", spec := "isolateAhead", apart := false, narrowed := true }
def IsolateAheadUptoSaid : Prop := isolateAheadUptoRow.holds Try.pinned (OpenSpec.upto isolateAheadSpec)

/-- 'boustrophedonlaw24.RelevelOf', WHERE WHAT IT READS IS OF BULK AT MOST 1048576: true; the input reads as it did. -/
def relevelOfUptoRow : OpenClaim := { program := "ytgkmpndebcdigaa", sum := "8e91e2ef6984ed9331074cdd30668893ffd6debebbda7618f6cdd3f862e35036", func := "boustrophedon/boustrophedonlaw24.RelevelOf", spec := "relevelOf", apart := false, narrowed := true }
def RelevelOfUptoSaid : Prop := relevelOfUptoRow.holds Try.pinned (OpenSpec.upto relevelOfSpec)

/-- 'boustrophedonlaw24.RelevelTwice', WHERE WHAT IT READS IS OF BULK AT MOST 1048576: true; the input reads as it did. -/
def relevelTwiceUptoRow : OpenClaim := { program := "ytgkmpndebcdigaa", sum := "8e91e2ef6984ed9331074cdd30668893ffd6debebbda7618f6cdd3f862e35036", func := "boustrophedon/boustrophedonlaw24.RelevelTwice", spec := "relevelTwice", apart := false, narrowed := true }
def RelevelTwiceUptoSaid : Prop := relevelTwiceUptoRow.holds Try.pinned (OpenSpec.upto relevelTwiceSpec)

/-- 'boustrophedonlaw24.RelevelEnds', WHERE WHAT IT READS IS OF BULK AT MOST 1048576: true; the input reads as it did. -/
def relevelEndsUptoRow : OpenClaim := { program := "ytgkmpndebcdigaa", sum := "8e91e2ef6984ed9331074cdd30668893ffd6debebbda7618f6cdd3f862e35036", func := "boustrophedon/boustrophedonlaw24.RelevelEnds", spec := "relevelEnds", apart := false, narrowed := true }
def RelevelEndsUptoSaid : Prop := relevelEndsUptoRow.holds Try.pinned (OpenSpec.upto relevelEndsSpec)

/-- 'boustrophedonlaw19.LboneUnits', WHERE WHAT IT READS IS OF BULK AT MOST 1048576: true; the input reads as it did. -/
def lboneUnitsUptoRow : OpenClaim := { program := "ytgkmpndebcdigaa", sum := "8e91e2ef6984ed9331074cdd30668893ffd6debebbda7618f6cdd3f862e35036", func := "boustrophedon/boustrophedonlaw19.LboneUnits", spec := "lboneUnits", apart := false, narrowed := true }
def LboneUnitsUptoSaid : Prop := lboneUnitsUptoRow.holds Try.pinned (OpenSpec.upto lboneUnitsSpec)

/-- 'boustrophedonlaw19.LboneClass', WHERE WHAT IT READS IS OF BULK AT MOST 1048576: true; the input reads as it did. -/
def lboneClassUptoRow : OpenClaim := { program := "ytgkmpndebcdigaa", sum := "8e91e2ef6984ed9331074cdd30668893ffd6debebbda7618f6cdd3f862e35036", func := "boustrophedon/boustrophedonlaw19.LboneClass", spec := "lboneClass", apart := false, narrowed := true }
def LboneClassUptoSaid : Prop := lboneClassUptoRow.holds Try.pinned (OpenSpec.upto lboneClassSpec)

/-- 'boustrophedonlaw19.LboneMarks', WHERE WHAT IT READS IS OF BULK AT MOST 1048576: true; the input reads as it did. -/
def lboneMarksUptoRow : OpenClaim := { program := "ytgkmpndebcdigaa", sum := "8e91e2ef6984ed9331074cdd30668893ffd6debebbda7618f6cdd3f862e35036", func := "boustrophedon/boustrophedonlaw19.LboneMarks", spec := "lboneMarks", apart := false, narrowed := true }
def LboneMarksUptoSaid : Prop := lboneMarksUptoRow.holds Try.pinned (OpenSpec.upto lboneMarksSpec)

/-- 'boustrophedonlaw19.LboneParts', WHERE WHAT IT READS IS OF BULK AT MOST 1048576: true; the input reads as it did. -/
def lbonePartsUptoRow : OpenClaim := { program := "ytgkmpndebcdigaa", sum := "8e91e2ef6984ed9331074cdd30668893ffd6debebbda7618f6cdd3f862e35036", func := "boustrophedon/boustrophedonlaw19.LboneParts", spec := "lboneParts", apart := false, narrowed := true }
def LbonePartsUptoSaid : Prop := lbonePartsUptoRow.holds Try.pinned (OpenSpec.upto lbonePartsSpec)

end Rows
end Go.Proofs.Ytgkmpndebcdigaa
