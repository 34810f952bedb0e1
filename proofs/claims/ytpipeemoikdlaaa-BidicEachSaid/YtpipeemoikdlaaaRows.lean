/-
  No cell of these rows narrows 'for every input' (looked for: loops, veiled, ifaces, maps, wideKeys, modest, calm, conditions, laid).
  DERIVED. THE GIVEN ROWS OF THIS SEAT. 5 by the template 'for every input the law returns true; each argument reads behind the call as it read before'; 0 by the template 'total and deterministic' (their statements: YtpipeemoikdlaaaTotals.lean).
  GIVEN WITH THE SEED: the statements are not yours to turn. If you find one false, say at which input.
  Laid BY PROGRAM, IN A SANDBOX (cutbox-rows.mjs): the forced cells as the released guide's own fill.sh prints them over the translation eb1fd7e2d5f0c21e… (all of the seat's roots in one cut). By AI agents, Wed Nov 11 2026. No macro, syntax, notation, axiom, sorry.
-/
import Derived.Test.YtpipeemoikdlaaaChecked
import GoSem.Claim
import GoSem.ClaimJoined
import GoSem.ClaimMapViews
import Derived.JoinedTies
import Derived.KernelRfl
namespace Go.Proofs.Ytpipeemoikdlaaa
/- THE CELL 'sum', in the pinned program and in every row, IS THE sha256 OF THE DUMP (.gsa) THAT YtpipeemoikdlaaaProg.lean LOADS. Nothing in Lean hashes anything: it is a label: what it is worth is what the hold of that sum in a sandbox is worth. -/
noncomputable def Try.pinned : Pinned := { name := "ytpipeemoikdlaaa", sum := "eb1fd7e2d5f0c21e51975b6d73ae98eedd0e29fca1fb08741bbcd859335e44e2", checked := Try.checked }
namespace Rows
def none {H : Type} : Left H := { results := [], args := [] }

/-- 'boustrophedonlaw04.BidicTables': WHATEVER THE INPUT: true; the input reads as it did. -/
def bidicTablesSpec : ChangeSpec := { name := "bidicTables", fn := fun _ => fun
  | [d] => { results := [.lit (.bool true)], args := [d] }
  | _ => none }
def bidicTablesRow : OpenClaim := { program := "ytpipeemoikdlaaa", sum := "eb1fd7e2d5f0c21e51975b6d73ae98eedd0e29fca1fb08741bbcd859335e44e2", func := "boustrophedon/boustrophedonlaw04.BidicTables", spec := "bidicTables", apart := false }
def BidicTablesSaid : Prop := bidicTablesRow.holds Try.pinned (OpenSpec.ofChange bidicTablesSpec)

/-- ITS FALSE NEIGHBOUR: 'it returns false'. Refute it at one input. -/
def bidicTablesWrong : ChangeSpec := { name := "bidicTables", fn := fun _ => fun
  | [d] => { results := [.lit (.bool false)], args := [d] }
  | _ => none }
def BidicTablesWrongFalsely : Prop := bidicTablesRow.holds Try.pinned (OpenSpec.ofChange bidicTablesWrong)

/-- 'boustrophedonlaw04.BidicOf': WHATEVER THE INPUT: true; the input reads as it did. -/
def bidicOfSpec : ChangeSpec := { name := "bidicOf", fn := fun _ => fun
  | [d] => { results := [.lit (.bool true)], args := [d] }
  | _ => none }
def bidicOfRow : OpenClaim := { program := "ytpipeemoikdlaaa", sum := "eb1fd7e2d5f0c21e51975b6d73ae98eedd0e29fca1fb08741bbcd859335e44e2", func := "boustrophedon/boustrophedonlaw04.BidicOf", spec := "bidicOf", apart := false }
def BidicOfSaid : Prop := bidicOfRow.holds Try.pinned (OpenSpec.ofChange bidicOfSpec)

/-- ITS FALSE NEIGHBOUR: 'it returns false'. Refute it at one input. -/
def bidicOfWrong : ChangeSpec := { name := "bidicOf", fn := fun _ => fun
  | [d] => { results := [.lit (.bool false)], args := [d] }
  | _ => none }
def BidicOfWrongFalsely : Prop := bidicOfRow.holds Try.pinned (OpenSpec.ofChange bidicOfWrong)

/-- 'boustrophedonlaw04.BidicEach': WHATEVER THE INPUT: true; the input reads as it did. -/
def bidicEachSpec : ChangeSpec := { name := "bidicEach", fn := fun _ => fun
  | [d1, d2] => { results := [.lit (.bool true)], args := [d1, d2] }
  | _ => none }
def bidicEachRow : OpenClaim := { program := "ytpipeemoikdlaaa", sum := "eb1fd7e2d5f0c21e51975b6d73ae98eedd0e29fca1fb08741bbcd859335e44e2", func := "boustrophedon/boustrophedonlaw04.BidicEach", spec := "bidicEach", apart := false }
def BidicEachSaid : Prop := bidicEachRow.holds Try.pinned (OpenSpec.ofChange bidicEachSpec)

/-- ITS FALSE NEIGHBOUR: 'it returns false'. Refute it at one input. -/
def bidicEachWrong : ChangeSpec := { name := "bidicEach", fn := fun _ => fun
  | [d1, d2] => { results := [.lit (.bool false)], args := [d1, d2] }
  | _ => none }
def BidicEachWrongFalsely : Prop := bidicEachRow.holds Try.pinned (OpenSpec.ofChange bidicEachWrong)

/-- 'boustrophedonlaw04.BidicParts': WHATEVER THE INPUT: true; the input reads as it did. -/
def bidicPartsSpec : ChangeSpec := { name := "bidicParts", fn := fun _ => fun
  | [d1, d2] => { results := [.lit (.bool true)], args := [d1, d2] }
  | _ => none }
def bidicPartsRow : OpenClaim := { program := "ytpipeemoikdlaaa", sum := "eb1fd7e2d5f0c21e51975b6d73ae98eedd0e29fca1fb08741bbcd859335e44e2", func := "boustrophedon/boustrophedonlaw04.BidicParts", spec := "bidicParts", apart := false }
def BidicPartsSaid : Prop := bidicPartsRow.holds Try.pinned (OpenSpec.ofChange bidicPartsSpec)

/-- ITS FALSE NEIGHBOUR: 'it returns false'. Refute it at one input. -/
def bidicPartsWrong : ChangeSpec := { name := "bidicParts", fn := fun _ => fun
  | [d1, d2] => { results := [.lit (.bool false)], args := [d1, d2] }
  | _ => none }
def BidicPartsWrongFalsely : Prop := bidicPartsRow.holds Try.pinned (OpenSpec.ofChange bidicPartsWrong)

/-- 'boustrophedonlaw04.BidicKinds': WHATEVER THE INPUT: true; the input reads as it did. -/
def bidicKindsSpec : ChangeSpec := { name := "bidicKinds", fn := fun _ => fun
  | [d] => { results := [.lit (.bool true)], args := [d] }
  | _ => none }
def bidicKindsRow : OpenClaim := { program := "ytpipeemoikdlaaa", sum := "eb1fd7e2d5f0c21e51975b6d73ae98eedd0e29fca1fb08741bbcd859335e44e2", func := "boustrophedon/boustrophedonlaw04.BidicKinds", spec := "bidicKinds", apart := false }
def BidicKindsSaid : Prop := bidicKindsRow.holds Try.pinned (OpenSpec.ofChange bidicKindsSpec)

/-- ITS FALSE NEIGHBOUR: 'it returns false'. Refute it at one input. -/
def bidicKindsWrong : ChangeSpec := { name := "bidicKinds", fn := fun _ => fun
  | [d] => { results := [.lit (.bool false)], args := [d] }
  | _ => none }
def BidicKindsWrongFalsely : Prop := bidicKindsRow.holds Try.pinned (OpenSpec.ofChange bidicKindsWrong)

/- THE SECOND FORM. 'bulk': how many values and letters a reading holds, each counted each time it is reached (what is shared counts as often as it is met; a slice's spare places count too). A statement '..UptoSaid' is the law's where the arguments, and the package variables that the reading takes, are together of bulk at most 1048576: NARROWER than '..Said'. Prove '..Said' where nothing that the law and all that it calls make is longer than what came in: it says more and counts as full. Else prove '..UptoSaid'. A law counts once. -/
mutual
def uptoBulk {H : Type} : DataW H → Nat
  | .lit (.string bytes) => bytes.length + 1
  | .lit _ => 1
  | .nil => 1
  | .ptr d => uptoBulk d + 1
  | .slice elems spare => uptoBulkAll elems + uptoBulkAll spare + 1
  | .agg parts => uptoBulkAll parts + 1
  | .iface _ d => uptoBulk d + 1
  | .map entries => uptoBulkEntries entries + 1
  | .held _ => 1
def uptoBulkAll {H : Type} : List (DataW H) → Nat
  | [] => 0
  | d :: r => uptoBulk d + uptoBulkAll r
def uptoBulkEntries {H : Type} : List (Lit × DataW H) → Nat
  | [] => 0
  | x :: r => uptoBulkEntry x + uptoBulkEntries r
def uptoBulkEntry {H : Type} : Lit × DataW H → Nat
  | (.string bytes, d) => bytes.length + uptoBulk d + 1
  | (_, d) => uptoBulk d + 1
 end
def uptoSmall : (H : Type) → List (DataW H) → Bool := fun _ ds => decide (uptoBulkAll ds ≤ 1048576)
def OpenSpec.upto (s : _root_.Go.ChangeSpec) : _root_.Go.OpenSpec := { _root_.Go.OpenSpec.ofChange s with cond := some uptoSmall }

/-- 'boustrophedonlaw04.BidicTables', WHERE WHAT IT READS IS OF BULK AT MOST 1048576: true; the input reads as it did. -/
def bidicTablesUptoRow : OpenClaim := { program := "ytpipeemoikdlaaa", sum := "eb1fd7e2d5f0c21e51975b6d73ae98eedd0e29fca1fb08741bbcd859335e44e2", func := "boustrophedon/boustrophedonlaw04.BidicTables", spec := "bidicTables", apart := false, narrowed := true }
def BidicTablesUptoSaid : Prop := bidicTablesUptoRow.holds Try.pinned (OpenSpec.upto bidicTablesSpec)

/-- 'boustrophedonlaw04.BidicOf', WHERE WHAT IT READS IS OF BULK AT MOST 1048576: true; the input reads as it did. -/
def bidicOfUptoRow : OpenClaim := { program := "ytpipeemoikdlaaa", sum := "eb1fd7e2d5f0c21e51975b6d73ae98eedd0e29fca1fb08741bbcd859335e44e2", func := "boustrophedon/boustrophedonlaw04.BidicOf", spec := "bidicOf", apart := false, narrowed := true }
def BidicOfUptoSaid : Prop := bidicOfUptoRow.holds Try.pinned (OpenSpec.upto bidicOfSpec)

/-- 'boustrophedonlaw04.BidicEach', WHERE WHAT IT READS IS OF BULK AT MOST 1048576: true; the input reads as it did. -/
def bidicEachUptoRow : OpenClaim := { program := "ytpipeemoikdlaaa", sum := "eb1fd7e2d5f0c21e51975b6d73ae98eedd0e29fca1fb08741bbcd859335e44e2", func := "boustrophedon/boustrophedonlaw04.BidicEach", spec := "bidicEach", apart := false, narrowed := true }
def BidicEachUptoSaid : Prop := bidicEachUptoRow.holds Try.pinned (OpenSpec.upto bidicEachSpec)

/-- 'boustrophedonlaw04.BidicParts', WHERE WHAT IT READS IS OF BULK AT MOST 1048576: true; the input reads as it did. -/
def bidicPartsUptoRow : OpenClaim := { program := "ytpipeemoikdlaaa", sum := "eb1fd7e2d5f0c21e51975b6d73ae98eedd0e29fca1fb08741bbcd859335e44e2", func := "boustrophedon/boustrophedonlaw04.BidicParts", spec := "bidicParts", apart := false, narrowed := true }
def BidicPartsUptoSaid : Prop := bidicPartsUptoRow.holds Try.pinned (OpenSpec.upto bidicPartsSpec)

/-- 'boustrophedonlaw04.BidicKinds', WHERE WHAT IT READS IS OF BULK AT MOST 1048576: true; the input reads as it did. -/
def bidicKindsUptoRow : OpenClaim := { program := "ytpipeemoikdlaaa", sum := "eb1fd7e2d5f0c21e51975b6d73ae98eedd0e29fca1fb08741bbcd859335e44e2", func := "boustrophedon/boustrophedonlaw04.BidicKinds", spec := "bidicKinds", apart := false, narrowed := true }
def BidicKindsUptoSaid : Prop := bidicKindsUptoRow.holds Try.pinned (OpenSpec.upto bidicKindsSpec)

end Rows
end Go.Proofs.Ytpipeemoikdlaaa
