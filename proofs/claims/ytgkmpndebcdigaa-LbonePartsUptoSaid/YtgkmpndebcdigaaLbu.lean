/-
  Layer 19: what lbone.Units computes, in plain Lean; its contract over the program.
-/
import Derived.Test.YtgkmpndebcdigaaLbf
import Derived.Outline
namespace Go.Proofs.Ytgkmpndebcdigaa.lb
open Go.RowKit

theorem info44 : (Try.prog.info? 44).map (fun i => (i.zero, i.size, i.bytes)) = some (some (.agg #[.int .i64 0, .int .i64 0, .int .u8 0, .bool false]), 4, 24) := by kernel_rfl

/-- lbone.Unit -/
structure U where
  frm : Nat
  to : Nat
  cls : Int
  joined : Bool
deriving DecidableEq

def U.cells (u : U) : List Value := [.int .i64 u.frm, .int .i64 u.to, .int .u8 u.cls, .bool u.joined]
def ucells (us : List U) : List Value := us.flatMap U.cells
theorem ucells_length (us : List U) : (ucells us).length = us.length * 4 := by
  induction us with
  | nil => rfl
  | cons u r ih => simp only [ucells, List.flatMap_cons, List.length_append, List.length_cons] at ih ⊢; rw [ih]; simp [U.cells]; omega
theorem ucells_append (a b : List U) : ucells (a ++ b) = ucells a ++ ucells b := by simp [ucells]
theorem ucells_at {us : List U} {k : Nat} {u : U} (h : us[k]? = some u) (f : Nat) (hf : f < 4) : (ucells us)[k * 4 + f]? = (U.cells u)[f]? := by
  induction us generalizing k with
  | nil => simp at h
  | cons v r ih =>
    cases k with
    | zero =>
      simp only [List.getElem?_cons_zero, Option.some.injEq] at h
      subst h
      simp only [ucells, List.flatMap_cons]
      rw [List.getElem?_append_left (by simp [U.cells]; omega)]
      simp
    | succ k =>
      have := ih (by simpa using h)
      simp only [ucells, List.flatMap_cons]
      rw [List.getElem?_append_right (by simp [U.cells]; omega)]
      rw [show (k + 1) * 4 + f - v.cells.length = k * 4 + f from by simp [U.cells]; omega]
      exact this

/-- the class that a place counts as, where marks are joined -/
def seen (cs widths : List Int) (k : Nat) : Int := if cs.getD k 0 = 40 ∧ widths[k]? = some 0 then 3 else cs.getD k 0

def unitStep (c : Int) (k : Nat) (us : List U) : List U :=
  match us.getLast? with
  | some l =>
    if mark c && takes l.cls then us.dropLast ++ [⟨l.frm, k + 1, l.cls, c == 4⟩]
    else us ++ [⟨k, k + 1, if mark c then 1 else cls c, mark c && c == 4⟩]
  | none => us ++ [⟨k, k + 1, if mark c then 1 else cls c, mark c && c == 4⟩]

def unitsTo (cs widths : List Int) : Nat → List U
  | 0 => []
  | k + 1 => unitStep (seen cs widths k) k (unitsTo cs widths k)
def units (cs widths : List Int) : List U := unitsTo cs widths cs.length

theorem unitsTo_length (cs widths : List Int) (k : Nat) : (unitsTo cs widths k).length ≤ k := by
  induction k with
  | zero => simp [unitsTo]
  | succ k ih =>
    rw [unitsTo, unitStep]
    split
    · split
      · simp; omega
      · simp; omega
    · simp; omega

end Go.Proofs.Ytgkmpndebcdigaa.lb
