/-
  No cell of these rows narrows 'for every input' (looked for: loops, veiled, ifaces, maps, wideKeys, modest, calm, conditions, laid).
  DERIVED. THE GIVEN ROWS OF THIS SEAT. 4 by the template 'for every input the law returns true; each argument reads behind the call as it read before'; 0 by the template 'total and deterministic' (their statements: YtbfglgbgchidgaaTotals.lean).
  GIVEN WITH THE SEED: the statements are not yours to turn. If you find one false, say at which input.
  Laid BY PROGRAM, IN A SANDBOX (cutbox-rows.mjs): the forced cells as the released guide's own fill.sh prints them over the translation 098655a578ed3314… (all of the seat's roots in one cut). By AI agents, Wed Nov 11 2026. No macro, syntax, notation, axiom, sorry.
-/
import Derived.Test.YtbfglgbgchidgaaChecked
import GoSem.Claim
import GoSem.ClaimJoined
import GoSem.ClaimMapViews
import Derived.JoinedTies
import Derived.KernelRfl
namespace Go.Proofs.Ytbfglgbgchidgaa
/- THE CELL 'sum', in the pinned program and in every row, IS THE sha256 OF THE DUMP (.gsa) THAT YtbfglgbgchidgaaProg.lean LOADS. Nothing in Lean hashes anything: it is a label: what it is worth is what the hold of that sum in a sandbox is worth. -/
noncomputable def Try.pinned : Pinned := { name := "ytbfglgbgchidgaa", sum := "098655a578ed33145c5e7a1c9a0b5249837adef228f7bc36174920171cb0a35c", checked := Try.checked }
namespace Rows
def none {H : Type} : Left H := { results := [], args := [] }

/-- 'boustrophedonlaw14.WeakResolves': WHATEVER THE INPUT: true; the input reads as it did. -/
def weakResolvesSpec : ChangeSpec := { name := "weakResolves", fn := fun _ => fun
  | [d1, d2] => { results := [.lit (.bool true)], args := [d1, d2] }
  | _ => none }
def weakResolvesRow : OpenClaim := { program := "ytbfglgbgchidgaa", sum := "098655a578ed33145c5e7a1c9a0b5249837adef228f7bc36174920171cb0a35c", func := "boustrophedon/boustrophedonlaw14.WeakResolves", spec := "weakResolves", apart := false }
def WeakResolvesSaid : Prop := weakResolvesRow.holds Try.pinned (OpenSpec.ofChange weakResolvesSpec)

/-- ITS FALSE NEIGHBOUR: 'it returns false'. Refute it at one input. -/
def weakResolvesWrong : ChangeSpec := { name := "weakResolves", fn := fun _ => fun
  | [d1, d2] => { results := [.lit (.bool false)], args := [d1, d2] }
  | _ => none }
def WeakResolvesWrongFalsely : Prop := weakResolvesRow.holds Try.pinned (OpenSpec.ofChange weakResolvesWrong)

/-- 'boustrophedonlaw14.WeakNone': WHATEVER THE INPUT: true; the input reads as it did. -/
def weakNoneSpec : ChangeSpec := { name := "weakNone", fn := fun _ => fun
  | [d1, d2] => { results := [.lit (.bool true)], args := [d1, d2] }
  | _ => none }
def weakNoneRow : OpenClaim := { program := "ytbfglgbgchidgaa", sum := "098655a578ed33145c5e7a1c9a0b5249837adef228f7bc36174920171cb0a35c", func := "boustrophedon/boustrophedonlaw14.WeakNone", spec := "weakNone", apart := false }
def WeakNoneSaid : Prop := weakNoneRow.holds Try.pinned (OpenSpec.ofChange weakNoneSpec)

/-- ITS FALSE NEIGHBOUR: 'it returns false'. Refute it at one input. -/
def weakNoneWrong : ChangeSpec := { name := "weakNone", fn := fun _ => fun
  | [d1, d2] => { results := [.lit (.bool false)], args := [d1, d2] }
  | _ => none }
def WeakNoneWrongFalsely : Prop := weakNoneRow.holds Try.pinned (OpenSpec.ofChange weakNoneWrong)

/-- 'boustrophedonlaw14.WeakTwice': WHATEVER THE INPUT: true; the input reads as it did. -/
def weakTwiceSpec : ChangeSpec := { name := "weakTwice", fn := fun _ => fun
  | [d1, d2] => { results := [.lit (.bool true)], args := [d1, d2] }
  | _ => none }
def weakTwiceRow : OpenClaim := { program := "ytbfglgbgchidgaa", sum := "098655a578ed33145c5e7a1c9a0b5249837adef228f7bc36174920171cb0a35c", func := "boustrophedon/boustrophedonlaw14.WeakTwice", spec := "weakTwice", apart := false }
def WeakTwiceSaid : Prop := weakTwiceRow.holds Try.pinned (OpenSpec.ofChange weakTwiceSpec)

/-- ITS FALSE NEIGHBOUR: 'it returns false'. Refute it at one input. -/
def weakTwiceWrong : ChangeSpec := { name := "weakTwice", fn := fun _ => fun
  | [d1, d2] => { results := [.lit (.bool false)], args := [d1, d2] }
  | _ => none }
def WeakTwiceWrongFalsely : Prop := weakTwiceRow.holds Try.pinned (OpenSpec.ofChange weakTwiceWrong)

/-- 'boustrophedonlaw14.WeakParts': WHATEVER THE INPUT: true; the input reads as it did. -/
def weakPartsSpec : ChangeSpec := { name := "weakParts", fn := fun _ => fun
  | [d1, d2, d3] => { results := [.lit (.bool true)], args := [d1, d2, d3] }
  | _ => none }
def weakPartsRow : OpenClaim := { program := "ytbfglgbgchidgaa", sum := "098655a578ed33145c5e7a1c9a0b5249837adef228f7bc36174920171cb0a35c", func := "boustrophedon/boustrophedonlaw14.WeakParts", spec := "weakParts", apart := false }
def WeakPartsSaid : Prop := weakPartsRow.holds Try.pinned (OpenSpec.ofChange weakPartsSpec)

/-- ITS FALSE NEIGHBOUR: 'it returns false'. Refute it at one input. -/
def weakPartsWrong : ChangeSpec := { name := "weakParts", fn := fun _ => fun
  | [d1, d2, d3] => { results := [.lit (.bool false)], args := [d1, d2, d3] }
  | _ => none }
def WeakPartsWrongFalsely : Prop := weakPartsRow.holds Try.pinned (OpenSpec.ofChange weakPartsWrong)

/- THE SECOND FORM. 'bulk': how many values and letters a reading holds, each counted each time it is reached (what is shared counts as often as it is met; a slice's spare places count too). A statement '..UptoSaid' is the law's where the arguments, and the package variables that the reading takes, are together of bulk at most 1048576: NARROWER than '..Said'. Prove '..Said' where nothing that the law and all that it calls make is longer than what came in: it says more and counts as full. Else prove '..UptoSaid'. A law counts once. -/
mutual
def uptoBulk {H : Type} : DataW H → Nat
  | .lit (.string bytes) => bytes.length + 1
  | .lit _ => 1
  | .nil => 1
  | .ptr d => uptoBulk d + 1
  | .slice elems spare => uptoBulkAll elems + uptoBulkAll spare + 1
  | .agg parts => uptoBulkAll parts + 1
  | .iface _ d => uptoBulk d + 1
  | .map entries => uptoBulkEntries entries + 1
  | .held _ => 1
def uptoBulkAll {H : Type} : List (DataW H) → Nat
  | [] => 0
  | d :: r => uptoBulk d + uptoBulkAll r
def uptoBulkEntries {H : Type} : List (Lit × DataW H) → Nat
  | [] => 0
  | x :: r => uptoBulkEntry x + uptoBulkEntries r
def uptoBulkEntry {H : Type} : Lit × DataW H → Nat
  | (.string bytes, d) => bytes.length + uptoBulk d + 1
  | (_, d) => uptoBulk d + 1
 end
def uptoSmall : (H : Type) → List (DataW H) → Bool := fun _ ds => decide (uptoBulkAll ds ≤ 1048576)
def OpenSpec.upto (s : _root_.Go.ChangeSpec) : _root_.Go.OpenSpec := { _root_.Go.OpenSpec.ofChange s with cond := some uptoSmall }

/-- 'boustrophedonlaw14.WeakResolves', WHERE WHAT IT READS IS OF BULK AT MOST 1048576: true; the input reads as it did. -/
def weakResolvesUptoRow : OpenClaim := { program := "ytbfglgbgchidgaa", sum := "098655a578ed33145c5e7a1c9a0b5249837adef228f7bc36174920171cb0a35c", func := "boustrophedon/boustrophedonlaw14.WeakResolves", spec := "weakResolves", apart := false, narrowed := true }
def WeakResolvesUptoSaid : Prop := weakResolvesUptoRow.holds Try.pinned (OpenSpec.upto weakResolvesSpec)

/-- 'boustrophedonlaw14.WeakNone', WHERE WHAT IT READS IS OF BULK AT MOST 1048576: true; the input reads as it did. -/
def weakNoneUptoRow : OpenClaim := { program := "ytbfglgbgchidgaa", sum := "098655a578ed33145c5e7a1c9a0b5249837adef228f7bc36174920171cb0a35c", func := "boustrophedon/boustrophedonlaw14.WeakNone", spec := "weakNone", apart := false, narrowed := true }
def WeakNoneUptoSaid : Prop := weakNoneUptoRow.holds Try.pinned (OpenSpec.upto weakNoneSpec)

/-- 'boustrophedonlaw14.WeakTwice', WHERE WHAT IT READS IS OF BULK AT MOST 1048576: true; the input reads as it did. -/
def weakTwiceUptoRow : OpenClaim := { program := "ytbfglgbgchidgaa", sum := "098655a578ed33145c5e7a1c9a0b5249837adef228f7bc36174920171cb0a35c", func := "boustrophedon/boustrophedonlaw14.WeakTwice", spec := "weakTwice", apart := false, narrowed := true }
def WeakTwiceUptoSaid : Prop := weakTwiceUptoRow.holds Try.pinned (OpenSpec.upto weakTwiceSpec)

/-- 'boustrophedonlaw14.WeakParts', WHERE WHAT IT READS IS OF BULK AT MOST 1048576: true; the input reads as it did. -/
def weakPartsUptoRow : OpenClaim := { program := "ytbfglgbgchidgaa", sum := "098655a578ed33145c5e7a1c9a0b5249837adef228f7bc36174920171cb0a35c", func := "boustrophedon/boustrophedonlaw14.WeakParts", spec := "weakParts", apart := false, narrowed := true }
def WeakPartsUptoSaid : Prop := weakPartsUptoRow.holds Try.pinned (OpenSpec.upto weakPartsSpec)

end Rows
end Go.Proofs.Ytbfglgbgchidgaa
