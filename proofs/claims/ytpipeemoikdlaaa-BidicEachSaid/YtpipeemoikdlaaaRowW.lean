/-
  From a walk to the row, for the full form: what an argument that is a slice of numbers reads as, and how its length hangs together with its reading's.
-/
import Derived.Test.YtpipeemoikdlaaaRowC
import Derived.SizedLaws
namespace Go.Proofs.Ytpipeemoikdlaaa
open Go.ChangeShapes Go.WideShapes Go.ChangeAt Go.RowKit

section
variable {H : Type} {enc : TypeId × Value → H} {P : Program}
/-- An argument that is a slice of numbers: it reads as a list, nil let in; its reading is a list of at least that length. -/
theorem open_rdw {W : World} {r : Reach} {base : Nat} {t e : TypeId} {k : IntKind} {v : Value} {d : DataW H} {ps : List MemPlace} (ht : P.underlying t = some (.slice e)) (he : P.underlying e = some (.int k)) (hc : P.cellsOf e = 1)
    (hok : Value.okWide P W r base t v) (h : DataW.Trod enc P W 0 (fun _ => true) true t v d ps) :
    ∃ A n c zs, v = .slice A n c ∧ Rd W 1 A n (ints k zs) ∧ n ≤ c ∧ zs.length = n ∧ (n = 0 ∨ ∃ elems spare, d = .slice elems spare ∧ n ≤ elems.length) ∧ ∀ z ∈ zs, (Lit.int k z).wf = true := by
  obtain ⟨A, n, c, zs, rfl, h1, hcap, h2, h3, h4⟩ := open_rdc ht he hc hok h
  refine ⟨A, n, c, zs, rfl, h1, hcap, h2, ?_, h4⟩
  obtain ⟨fuel, hf⟩ := h
  rcases open_ints ht he hc hf with ⟨hcs, _⟩ | ⟨a, len, cap, zs', hcs, _, hl, hm, hz, hx, _⟩
  · simp [Value.cells] at hcs
    exact .inl hcs.2.1
  · simp [Value.cells] at hcs
    obtain ⟨rfl, rfl, rfl⟩ := hcs
    simp only [Prod.mk.injEq] at hx
    obtain ⟨rfl, rfl⟩ := hx
    have hlz : n ≤ zs'.length := by rw [hz]; simpa using hl
    exact .inr ⟨_, _, rfl, by rw [lits, List.length_map, List.length_take]; omega⟩
end
end Go.Proofs.Ytpipeemoikdlaaa
