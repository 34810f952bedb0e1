/-
  Layer 9: the document's examples (awake) over the program.
-/
import Derived.Test.YtgkmpndebcdigaaClo
namespace Go.Proofs.Ytgkmpndebcdigaa
open Go.RowKit

theorem aw1 : matched [19, 20, 22, 0, 22, 22] = [4, 2, 1, -1, 0, -1] := by decide +kernel
theorem aw2 : matched [20, 0] = [-1, -1] := by decide +kernel

set_option maxHeartbeats 1000000 in
theorem awake_any (w : World) : Calls Try.prog 14 #[] w fun e w' => e = .returned (.bool true) ∧ Below w.heap.size w w' := by
  have r1 := Rd.of_own (World.ownsRow_lit (base := w.heap.size) (e := 29) (size := 1) w #[.int .u8 19, .int .u8 20, .int .u8 22, .int .u8 0, .int .u8 22, .int .u8 22] 6 (Nat.le_refl _) (by unfold maxLen; omega) rfl)
  go_enter Try.func14, Try.ntmps14
  go_wp2_with fail
  refine (match_any _ _ _ [19, 20, 22, 0, 22, 22] _ r1 (by omega)).mono ?_
  rintro e w1 ⟨v1, rfl, hown1, hb1⟩
  rw [aw1] at hown1
  obtain ⟨g1, c1, rfl, hg1, hg2⟩ := hown1.form (by omega)
  have r2 := Rd.of_own (World.ownsRow_lit (base := w1.heap.size) (e := 29) (size := 1) w1 #[.int .u8 20, .int .u8 0] 2 (Nat.le_refl _) (by unfold maxLen; omega) rfl)
  go_wp2_with fail
  refine (match_any _ _ _ [20, 0] _ r2 (by omega)).mono ?_
  rintro e w2 ⟨v2, rfl, hown2, hb2⟩
  rw [aw2] at hown2
  obtain ⟨g2, c2, rfl, hg3, hg4⟩ := hown2.form (by omega)
  have hB : Below w.heap.size w w2 := by
    have h1 : Below w.heap.size w w1 := ((Below.refl _ _).alloc (Nat.le_refl _) _).trans (hb1.mono (by simp))
    exact (h1.alloc h1.size _).trans (hb2.mono (by have := h1.size; simp; omega))
  have hk : ∀ j, w2.cell? ⟨g1, j, none⟩ = w1.cell? ⟨g1, j, none⟩ := fun j =>
    (hb2.cell (p := ⟨g1, j, none⟩) (by simp; omega)).trans (World.cell?_alloc_lt w1 _ _ (by simp; omega))
  have a0 := (hk 0).trans (hown1.cellAt 0 (by omega))
  have a1 := (hk 1).trans (hown1.cellAt 1 (by omega))
  have a2 := (hk 2).trans (hown1.cellAt 2 (by omega))
  have a3 := (hk 3).trans (hown1.cellAt 3 (by omega))
  have a4 := (hk 4).trans (hown1.cellAt 4 (by omega))
  have a5 := (hk 5).trans (hown1.cellAt 5 (by omega))
  have b0 := hown2.cellAt 0 (by omega)
  simp only [ints, List.map_cons, List.getElem?_cons_zero, List.getElem?_cons_succ] at a0 a1 a2 a3 a4 a5 b0
  clear r1 r2 hk hown1 hown2
  go_wp2
  go_ret
  exact ⟨rfl, hB⟩
end Go.Proofs.Ytgkmpndebcdigaa
