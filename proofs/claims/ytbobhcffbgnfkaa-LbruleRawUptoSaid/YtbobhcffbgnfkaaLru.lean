/-
  Layer 20: units as cells; the contracts of of, are and Between, and of the document's examples, over the program.
-/
import Derived.Test.YtbobhcffbgnfkaaLrt
namespace Go.Proofs.Ytbobhcffbgnfkaa.lr
open Go.RowKit

theorem infoU : (Try.prog.info? 31).map (fun i => (i.zero, i.size, i.bytes)) = some (some (.agg #[.int .i64 0, .int .i64 0, .int .u8 0, .bool false]), 4, 24) := by kernel_rfl
theorem infoSt : (Try.prog.info? 38).map (fun i => (i.zero, i.size, i.bytes)) = some (some (.int .i64 0), 1, 8) := by kernel_rfl
theorem infoI : (Try.prog.info? 3).map (fun i => (i.zero, i.size, i.bytes)) = some (some (.int .i64 0), 1, 8) := by kernel_rfl

/-- lbone.Unit -/
structure U where
  frm : Nat
  fin : Nat
  cls : Int
  joined : Bool
deriving DecidableEq

def U.cells (u : U) : List Value := [.int .i64 u.frm, .int .i64 u.fin, .int .u8 u.cls, .bool u.joined]
def ucells (us : List U) : List Value := us.flatMap U.cells
theorem ucells_length (us : List U) : (ucells us).length = us.length * 4 := by
  induction us with
  | nil => rfl
  | cons u r ih => simp only [ucells, List.flatMap_cons, List.length_append, List.length_cons] at ih ⊢; rw [ih]; simp [U.cells]; omega
theorem ucells_append (a b : List U) : ucells (a ++ b) = ucells a ++ ucells b := by simp [ucells]
theorem ucells_at {us : List U} {k : Nat} {u : U} (h : us[k]? = some u) (f : Nat) (hf : f < 4) : (ucells us)[k * 4 + f]? = (U.cells u)[f]? := by
  induction us generalizing k with
  | nil => simp at h
  | cons v r ih =>
    cases k with
    | zero =>
      simp only [List.getElem?_cons_zero, Option.some.injEq] at h
      subst h
      simp only [ucells, List.flatMap_cons]
      rw [List.getElem?_append_left (by simp [U.cells]; omega)]
      simp
    | succ k =>
      have := ih (by simpa using h)
      simp only [ucells, List.flatMap_cons]
      rw [List.getElem?_append_right (by simp [U.cells]; omega)]
      rw [show (k + 1) * 4 + f - v.cells.length = k * 4 + f from by simp [U.cells]; omega]
      exact this
theorem unit_cells {w : World} {base g n c : Nat} {us : List U} (h : w.ownsRow base 31 4 (.slice (some ⟨g, 0, none⟩) n c) n (ucells us)) {k : Nat} {u : U} (hu : us[k]? = some u) (hk : k < n) :
    w.cell? ⟨g, k * 4, none⟩ = some (.int .i64 (u.frm : Int)) ∧ w.cell? ⟨g, k * 4 + 1, none⟩ = some (.int .i64 (u.fin : Int)) ∧ w.cell? ⟨g, k * 4 + 2, none⟩ = some (.int .u8 u.cls) ∧ w.cell? ⟨g, k * 4 + 3, none⟩ = some (.bool u.joined) :=
  ⟨(h.cellAt (k * 4) (by omega)).trans (ucells_at hu 0 (by omega)), (h.cellAt (k * 4 + 1) (by omega)).trans (ucells_at hu 1 (by omega)), (h.cellAt (k * 4 + 2) (by omega)).trans (ucells_at hu 2 (by omega)),
    (h.cellAt (k * 4 + 3) (by omega)).trans (ucells_at hu 3 (by omega))⟩
theorem u_one {a b c : Int} {d : Bool} : ∀ u ∈ (#[Value.int .i64 a, .int .i64 b, .int .u8 c, .bool d] : Array Value).toList, u.oneCell' = true := by
  intro u hu
  simp only [List.mem_cons, List.not_mem_nil, or_false] at hu
  rcases hu with rfl | rfl | rfl | rfl <;> rfl

/-- the units that 'of' makes of some classes -/
def unitsOf (cs : List Int) : List U := (List.range cs.length).map fun k => ⟨k, k + 1, cs.getD k 0, false⟩
def unitsOfTo (cs : List Int) (k : Nat) : List U := (List.range k).map fun k => ⟨k, k + 1, cs.getD k 0, false⟩
def vOf (us : List U) : List V := us.map fun u => (u.cls, u.joined)

set_option maxHeartbeats 1000000 in
theorem of_any (A : Option Addr) (n c : Nat) (cs : List Int) (w : World) (hr : Rd w 1 A n (ints .u8 cs)) (hn : n ≤ 2097152) :
    Calls Try.prog 10 #[.slice A n c] w fun e w' => ∃ v, e = .returned v ∧ w'.ownsRow w.heap.size 31 4 v n (ucells (unitsOf cs)) ∧ Below w.heap.size w w' := by
  obtain ⟨i0, hi, hz0, hz1, hz2⟩ := info_parts infoU
  have HL := Lib.hid (show cs.length = n by simpa using hr.1)
  go_enter Try.func10, Try.ntmps10
  go_wp2
  go_loopw [3, 8] (fun v i wr => ∃ k : Nat, k ≤ n ∧ i = .int .i64 k ∧ wr.ownsRow w.heap.size 31 4 v k (ucells (unitsOfTo cs k)) ∧ Below w.heap.size w wr)
    (fun _ i _ => n - (intOf i).toNat)
  case atStart => exact ⟨0, Nat.zero_le _, rfl, World.ownsRow_nil _ _ _ _, Below.refl _ _⟩
  case round =>
    obtain ⟨k, hk, rfl, hown, hb⟩ := hrel
    by_cases hlt : k < n
    · have hkz : k < cs.length := by rw [HL.out]; exact hlt
      obtain ⟨ad, rfl, hc⟩ := (hr.same hb).cell_ (ints_at (K := .u8) hkz)
      have hs : unitsOfTo cs (k + 1) = unitsOfTo cs k ++ [⟨k, k + 1, cs[k], false⟩] := by
        simp [unitsOfTo, List.range_succ, List.getD_eq_getElem?_getD, List.getElem?_eq_getElem hkz]
      have HS := Lib.hid hs
      clear hr hs
      generalize cs[k] = x at *
      go_wp2_with (first | (at_builtin; refine wpList_append_new rfl (.tmp 13) (.tmp 19) 25 rfl w.heap.size w w.heap.size 31 i0 _ 4 24 Try.underlying25 hi hz0 hz1 hz2 rfl (by decide) _ _ _ rfl hown _ _ rfl u_one _ rfl (by simp) hb hb.size (Nat.le_refl _) hb.size (by omega) (by omega) ?_; intro v' w1 hown1 hb1 _ _))
      go_roundw
      case rel => exact ⟨k + 1, by omega, by go_num, by rw [HS.out, ucells_append]; simpa [ucells, U.cells] using hown1, hb1⟩
      case measure => simp [intOf]; omega
    · obtain rfl : n = k := by omega
      go_wp2
      go_ret
      refine ⟨_, rfl, ?_, hb⟩
      rw [unitsOf, HL.out]
      exact hown

/-- are: the statuses are those numbers -/
theorem are_yes (A : Option Addr) (n c : Nat) (A1 : Option Addr) (n1 c1 : Nat) (zs : List Int) (w : World) (hr : Rd w 1 A n (ints .i64 zs)) (hr1 : Rd w 1 A1 n1 (ints .i64 zs)) (hn : n ≤ 2097152) :
    Calls Try.prog 12 #[.slice A n c, .slice A1 n1 c1] w fun e w' => e = .returned (.bool true) ∧ Below w.heap.size w w' := by
  have HL := Lib.hid (show zs.length = n by simpa using hr.1)
  obtain rfl : n1 = n := by have := hr.1; have := hr1.1; simp at *; omega
  go_enter Try.func12, Try.ntmps12
  go_wp2
  go_loopw [5] (fun i wr => ∃ k : Nat, k ≤ n1 ∧ i = .int .i64 k ∧ Below w.heap.size w wr) (fun i _ => n1 - (intOf i).toNat)
  case atStart => exact ⟨0, Nat.zero_le _, rfl, Below.refl _ _⟩
  case round =>
    obtain ⟨k, hk, rfl, hb⟩ := hrel
    by_cases hlt : k < n1
    · have hkz : k < zs.length := by rw [HL.out]; exact hlt
      obtain ⟨ad, rfl, hc⟩ := (hr.same hb).cell_ (ints_at (K := .i64) hkz)
      obtain ⟨ad1, rfl, hc1⟩ := (hr1.same hb).cell_ (ints_at (K := .i64) hkz)
      clear hr hr1
      generalize zs[k] = x at *
      go_wp2
      go_quiet (fail)
      go_wp2
      go_roundw
      case rel => exact ⟨k + 1, by omega, by go_num, drawn hb _⟩
      case measure => simp [intOf]; omega
    · go_wp2
      go_ret
      exact ⟨rfl, hb⟩
end Go.Proofs.Ytbobhcffbgnfkaa.lr
