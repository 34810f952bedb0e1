/-
  Layer 19: the document's examples (awake) and the statement LboneClass over the program.
-/
import Derived.Test.YtgkmpndebcdigaaLbw
import Derived.Laws.StructEq
namespace Go.Proofs.Ytgkmpndebcdigaa.lb
open Go.RowKit

theorem aw19 : units [1, 3, 4, 9, 3] [] = [⟨0, 3, 1, true⟩, ⟨3, 4, 9, false⟩, ⟨4, 5, 1, false⟩] := by decide +kernel

set_option maxRecDepth 100000 in
set_option maxHeartbeats 1000000 in
theorem awake19_any (w : World) : Calls Try.prog 24 #[] w fun e w' => e = .returned (.bool true) ∧ Below w.heap.size w w' := by
  have r1 := lit_rd (w := w) (e := 42) (g := w.heap.size) #[.int .u8 1, .int .u8 3, .int .u8 4, .int .u8 9, .int .u8 3] 5 (by omega) rfl rfl
  go_enter Try.func24, Try.ntmps24
  go_wp2_with fail
  refine (units_any _ _ _ _ _ _ [1, 3, 4, 9, 3] [] _ r1 Rd.nil_ (by omega)).mono ?_
  rintro e w1 ⟨v1, rfl, hown1, hb1⟩
  rw [aw19] at hown1
  obtain ⟨g1, c1, rfl, hg1, hg2⟩ := hown1.form (by simp)
  have hB : Below w.heap.size w w1 := ((Below.refl _ _).alloc (Nat.le_refl _) _).trans (hb1.mono (by simp))
  have a0 := hown1.cellAt 0 (by simp)
  have a1 := hown1.cellAt 1 (by simp)
  have a2 := hown1.cellAt 2 (by simp)
  have a3 := hown1.cellAt 3 (by simp)
  have a4 := hown1.cellAt 4 (by simp)
  have a5 := hown1.cellAt 5 (by simp)
  have a6 := hown1.cellAt 6 (by simp)
  have a7 := hown1.cellAt 7 (by simp)
  have a8 := hown1.cellAt 8 (by simp)
  have a9 := hown1.cellAt 9 (by simp)
  have a10 := hown1.cellAt 10 (by simp)
  have a11 := hown1.cellAt 11 (by simp)
  simp [ucells, U.cells] at a0 a1 a2 a3 a4 a5 a6 a7 a8 a9 a10 a11
  clear r1 hown1
  go_wp2
  go_ret
  exact ⟨rfl, hB⟩

theorem cls_cls (c : Int) : cls (cls c) = cls c := by
  unfold cls
  split
  · rfl
  · split
    · rfl
    · simp_all

theorem class_law (x : Int) (w : World) (_hx : 0 ≤ x ∧ x ≤ 255) : Calls Try.prog 11 #[.int .u8 x] w fun e w' => e = .returned (.bool true) ∧ Below w.heap.size w w' := by
  have h2 := Lib.hid (cls_cls x)
  go_enter Try.func11, Try.ntmps11
  go_wp2_with fail
  refine (awake19_any _).mono ?_
  rintro e w1 ⟨rfl, hb1⟩
  go_wp2_with (first
    | (go_at_call 30; refine (cls_any _ _).mono ?_; rintro e w' ⟨rfl, rfl⟩)
    | (go_at_call 27; refine (lcls_any _ _).mono ?_; rintro e w' ⟨rfl, rfl⟩))
  all_goals go_ret
  all_goals exact ⟨ret_bool (by first | rfl | simp [h2.out]), hb1⟩
end Go.Proofs.Ytgkmpndebcdigaa.lb
