/-
  From a walk to the row: what an argument that is a slice of numbers reads as, its room told.
-/
import Derived.Test.YtpipeemoikdlaaaRow
namespace Go.Proofs.Ytpipeemoikdlaaa
open Go.ChangeShapes Go.WideShapes Go.ChangeAt Go.RowKit

section
variable {H : Type} {enc : TypeId × Value → H} {P : Program}
/-- An argument that is a slice of numbers: it reads as a list, nil let in; it has room for itself. -/
theorem open_rdc {W : World} {r : Reach} {base : Nat} {t e : TypeId} {k : IntKind} {v : Value} {d : DataW H} {ps : List MemPlace} (ht : P.underlying t = some (.slice e)) (he : P.underlying e = some (.int k)) (hc : P.cellsOf e = 1)
    (hok : Value.okWide P W r base t v) (h : DataW.Trod enc P W 0 (fun _ => true) true t v d ps) :
    ∃ A n c zs, v = .slice A n c ∧ Rd W 1 A n (ints k zs) ∧ n ≤ c ∧ zs.length = n ∧ n ≤ Rows.uptoBulk d ∧ ∀ z ∈ zs, (Lit.int k z).wf = true := by
  obtain ⟨A, n, c, zs, rfl, h1, h2, h3, h4⟩ := open_rd ht he hc hok h
  refine ⟨A, n, c, zs, rfl, h1, ?_, h2, h3, h4⟩
  obtain ⟨fuel, hf⟩ := h
  rcases open_ints ht he hc hf with ⟨hcs, _⟩ | ⟨a, len, cap, zs', hcs, _, hl, _⟩
  · simp [Value.cells] at hcs
    omega
  · simp [Value.cells] at hcs
    omega
end
end Go.Proofs.Ytpipeemoikdlaaa
