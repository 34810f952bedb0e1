/-
  Triples as ranges: what is alike for every table.
-/
import Derived.Test.YtpipeemoikdlaaaTb1
import Derived.Test.YtpipeemoikdlaaaTr4
namespace Go.Proofs.Ytpipeemoikdlaaa.tr
open Go.RowKit

/-- a triple as a range -/
def gOf (x : Int × Int × Int) : G := ⟨x.1, x.2.1, x.2.2⟩
def risingB : Int → List (Int × Int × Int) → Bool
  | _, [] => true
  | last, x :: r => decide (last < x.1) && (decide (0 ≤ x.1) && (decide (x.1 ≤ x.2.1) && (decide (x.2.1 ≤ 1114111) && (decide (0 ≤ x.2.2) && (decide (x.2.2 ≤ 255) && risingB x.2.1 r)))))
theorem rising_of {last : Int} {T : List (Int × Int × Int)} (h : risingB last T = true) : Rising last (T.map gOf) := by
  induction T generalizing last with
  | nil => trivial
  | cons x r ih =>
    simp only [risingB, Bool.and_eq_true, decide_eq_true_eq] at h
    obtain ⟨h1, h2, h3, h4, h5, h6, h7⟩ := h
    exact ⟨h1, h2, h3, h4, h5, h6, ih h7⟩

/-- ranges as cells -/
def gcells1 (x : G) : List Value := [.int .i32 x.lo, .int .i32 x.hi, .int .u8 x.v]
def gcells (R : List G) : List Value := R.flatMap gcells1
theorem gcells_append (a b : List G) : gcells (a ++ b) = gcells a ++ gcells b := by simp [gcells]
theorem gcells_at {R : List G} {i : Nat} {x : G} (h : R[i]? = some x) (f : Nat) (hf : f < 3) : (gcells R)[i * 3 + f]? = (gcells1 x)[f]? := by
  induction R generalizing i with
  | nil => simp at h
  | cons v r ih =>
    cases i with
    | zero =>
      simp only [List.getElem?_cons_zero, Option.some.injEq] at h
      subst h
      simp only [gcells, List.flatMap_cons]
      rw [List.getElem?_append_left (by simp [gcells1]; omega)]
      simp
    | succ i =>
      have := ih (by simpa using h)
      simp only [gcells, List.flatMap_cons]
      rw [List.getElem?_append_right (by simp [gcells1]; omega)]
      rw [show (i + 1) * 3 + f - (gcells1 v).length = i * 3 + f from by simp [gcells1]; omega]
      exact this
theorem RG.of_own {w : World} {base g n c : Nat} {R : List G} (hl : R.length = n) (h : w.ownsRow base 32 3 (.slice (some ⟨g, 0, none⟩) n c) n (gcells R)) : RG w g 0 n R := by
  refine ⟨hl, fun j hj => ?_⟩
  have hu : R[j]? = some R[j] := List.getElem?_eq_getElem hj
  have e : (0 : Nat) + j * 3 = j * 3 := by omega
  rw [e]
  exact ⟨(h.cellAt (j * 3) (by omega)).trans (gcells_at hu 0 (by omega)), (h.cellAt (j * 3 + 1) (by omega)).trans (gcells_at hu 1 (by omega)), (h.cellAt (j * 3 + 2) (by omega)).trans (gcells_at hu 2 (by omega))⟩

theorem infoG : (Try.prog.info? 32).map (fun i => (i.zero, i.size, i.bytes)) = some (some (.agg #[.int .i32 0, .int .i32 0, .int .u8 0]), 3, 12) := by kernel_rfl
theorem g_one {a b c : Int} : ∀ u ∈ (#[Value.int .i32 a, .int .i32 b, .int .u8 c] : Array Value).toList, u.oneCell' = true := by
  intro u hu
  simp only [List.mem_cons, List.not_mem_nil, or_false] at hu
  rcases hu with rfl | rfl | rfl <;> rfl

theorem Blk.tri {w : World} {g : Nat} {t : TypeId} {K : IntKind} {T : List (Int × Int × Int)} (h : Blk w g t (tcells K T).toArray) {k : Nat} {x : Int × Int × Int} (hx : T[k]? = some x) :
    w.cell? ⟨g, k * 3, none⟩ = some (.int K x.1) ∧ w.cell? ⟨g, k * 3 + 1, none⟩ = some (.int K x.2.1) ∧ w.cell? ⟨g, k * 3 + 2, none⟩ = some (.int K x.2.2) := by
  refine ⟨(h.cell _).trans ?_, (h.cell _).trans ?_, (h.cell _).trans ?_⟩
  · rw [List.getElem?_toArray]; exact tcells_at hx 0 (by omega)
  · rw [List.getElem?_toArray]; exact tcells_at hx 1 (by omega)
  · rw [List.getElem?_toArray]; exact tcells_at hx 2 (by omega)

end Go.Proofs.Ytpipeemoikdlaaa.tr
