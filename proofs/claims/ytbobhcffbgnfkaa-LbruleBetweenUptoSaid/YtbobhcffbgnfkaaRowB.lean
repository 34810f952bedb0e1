/-
  From a walk to the row: what an argument that is a slice of bools reads as.
-/
import Derived.Test.YtbobhcffbgnfkaaRow
import Derived.Deep.Grids
namespace Go.Proofs.Ytbobhcffbgnfkaa
open Go.ChangeShapes Go.WideShapes Go.ChangeAt Go.RowKit

def bools (bs : List Bool) : List Value := bs.map Value.bool
theorem bools_at {bs : List Bool} {k : Nat} (h : k < bs.length) : (bools bs)[k]? = some (.bool bs[k]) := by simp [bools, h]

section
variable {H : Type} {enc : TypeId × Value → H} {P : Program}
/-- An argument that is a slice of bools: it reads as a list, nil let in. -/
theorem open_rdb {W : World} {r : Reach} {base : Nat} {t e : TypeId} {v : Value} {d : DataW H} {ps : List MemPlace} (ht : P.underlying t = some (.slice e)) (he : P.underlying e = some .bool) (hc : P.cellsOf e = 1)
    (hok : Value.okWide P W r base t v) (h : DataW.Trod enc P W 0 (fun _ => true) true t v d ps) :
    ∃ A n c bs, v = .slice A n c ∧ Rd W 1 A n (bools bs) ∧ bs.length = n ∧ n ≤ Rows.uptoBulk d := by
  obtain ⟨A, n, c, rfl⟩ := okWide_slice ht hok
  obtain ⟨fuel, hf⟩ := h
  rcases Go.Deep.open_bools ht he hc hf with ⟨hcs, hx⟩ | ⟨a, len, cap, B, hcs, _, hl, hm, hx, hcell⟩
  · simp [Value.cells] at hcs
    obtain ⟨rfl, rfl, rfl⟩ := hcs
    exact ⟨_, _, _, [], rfl, Rd.nil_, rfl, Nat.zero_le _⟩
  · simp [Value.cells] at hcs
    obtain ⟨rfl, rfl, rfl⟩ := hcs
    simp only [Prod.mk.injEq] at hx
    obtain ⟨rfl, rfl⟩ := hx
    refine ⟨_, _, _, (List.range n).map B, rfl, ⟨by simp [bools], fun _ => ⟨a, rfl, ?_⟩⟩, by simp, ?_⟩
    · intro j u hu
      have hj : j < n := by have := (List.getElem?_eq_some_iff.1 hu).1; simpa [bools] using this
      rw [hcell j (by omega)]
      simpa [bools, hj] using hu
    · simp only [Go.Deep.boolRow, Rows.uptoBulk]
      have := bulk_length (H := H) ((List.range n).map fun i => .lit (.bool (B i)))
      simp at this ⊢
      omega
end
end Go.Proofs.Ytbobhcffbgnfkaa
