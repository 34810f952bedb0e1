/-
  Layer 22: the document's examples; the walk of the statement MeasureCells.
-/
import Derived.Test.YtmonkeencbhcmaaMeb
namespace Go.Proofs.Ytmonkeencbhcmaa.me
open Go.RowKit lb

theorem count_is (w : World) (v : Value) (n : Nat) (ws cs : List Int) (h : Rul w v n ws cs) (x : Int) (hx : (n : Int) = x) :
    Calls Try.prog 14 #[v] w fun e w' => e = .returned (.int .i64 x) ∧ w = w' := by
  subst hx; exact count_any w v n ws cs h
theorem cells_is (w : World) (v : Value) (n : Nat) (ws cs : List Int) (h : Rul w v n ws cs) (x y z : Int) (hn : n ≤ 4194304) (hw : ∀ z ∈ ws, 0 ≤ z ∧ z ≤ 2) (hz : cellsOf ws n x y = z) :
    Calls Try.prog 15 #[v, .int .i64 x, .int .i64 y] w fun e w' => e = .returned (.int .i64 z) ∧ Rul w' v n ws cs ∧ Below w.heap.size w w' :=
  (cells_any w v n ws cs h x y hn hw).mono fun e w' ⟨he, q, hq⟩ => by
    subst hq; exact ⟨by rw [he, hz], h.same (drawn (Below.refl _ _) q), drawn (Below.refl _ _) q⟩
theorem shown_is (w : World) (v : Value) (n : Nat) (ws cs : List Int) (h : Rul w v n ws cs) (x y z : Int) (hn : n ≤ 4194304) (hw : ∀ z ∈ ws, 0 ≤ z ∧ z ≤ 2) (hz : shownOf ws cs n x y = z) :
    Calls Try.prog 16 #[v, .int .i64 x, .int .i64 y] w fun e w' => e = .returned (.int .i64 z) ∧ Rul w' v n ws cs ∧ Below w.heap.size w w' :=
  (shown_any w v n ws cs h x y hn hw).mono fun e w' ⟨he, q, hq⟩ => by
    subst hq; exact ⟨by rw [he, hz], h.same (drawn (Below.refl _ _) q), drawn (Below.refl _ _) q⟩
theorem whole_is (w : World) (v : Value) (n : Nat) (ws cs : List Int) (h : Rul w v n ws cs) (x : Int) (z : Bool) (hn : n ≤ 4194304) (hz : wholeOf ws n x = z) :
    Calls Try.prog 17 #[v, .int .i64 x] w fun e w' => e = .returned (.bool z) ∧ Rul w' v n ws cs ∧ Below w.heap.size w w' :=
  (whole_any w v n ws cs h x hn).mono fun e w' ⟨he, hq⟩ => by
    subst hq; exact ⟨by rw [he, hz], h, Below.refl _ _⟩

set_option maxRecDepth 100000 in
set_option maxHeartbeats 1000000 in
theorem awake22_any (w : World) : Calls Try.prog 10 #[] w fun e w' => e = .returned (.bool true) ∧ Below w.heap.size w w' := by
  have r1 := lit_rd (w := w) (e := 3) (g := w.heap.size) #[.int .i64 1, .int .i64 1, .int .i64 1, .int .i64 0] 4 (by omega) rfl rfl
  have r2 := lit_rd (w := (w.alloc (.cells #[.int .i64 1, .int .i64 1, .int .i64 1, .int .i64 0] 3))) (e := 31) (g := w.heap.size + 1) #[.int .u8 1, .int .u8 9, .int .u8 9, .int .u8 3] 4 (by omega) rfl (by simp)
  go_enter Try.func10, Try.ntmps10
  go_wp2_with fail
  refine (of_any _ _ _ _ _ _ [1, 1, 1, 0] [1, 9, 9, 3] _ (r1.alloc _) r2 (by omega) (by decide)).mono ?_
  rintro e w1 ⟨v1, rfl, h1, hb1⟩
  have hB : Below w.heap.size w w1 := (((Below.refl _ _).alloc (Nat.le_refl _) _).alloc (by simp) _).trans (hb1.mono (by simp; omega))
  clear r1 r2 hb1
  obtain ⟨b, hv⟩ : ∃ b, v1 = .pointer (some ⟨b, 0, none⟩) := by
    obtain ⟨b, _, _, _, rfl, _⟩ := h1.ex
    exact ⟨b, rfl⟩
  subst hv
  have wb : ∀ z ∈ [(1 : Int), 1, 1, 0], 0 ≤ z ∧ z ≤ 2 := by decide
  have nb : min 4 4 ≤ 4194304 := by decide
  have e1 : ((min 4 4 : Nat) : Int) = 4 := by decide
  have e2 : cellsOf [1, 1, 1, 0] (min 4 4) 0 3 = 3 := by decide +kernel
  have e3 : shownOf [1, 1, 1, 0] [1, 9, 9, 3] (min 4 4) 0 3 = 1 := by decide +kernel
  have e4 : shownOf [1, 1, 1, 0] [1, 9, 9, 3] (min 4 4) 1 3 = 0 := by decide +kernel
  have e5 : wholeOf [1, 1, 1, 0] (min 4 4) 3 = false := by decide +kernel
  have e6 : wholeOf [1, 1, 1, 0] (min 4 4) 4 = true := by decide +kernel
  have C1 := Lib.hid fun W (h : Rul W (.pointer (some ⟨b, 0, none⟩)) (min 4 4) [1, 1, 1, 0] [1, 9, 9, 3]) => count_is W _ _ _ _ h 4 e1
  have C2 := Lib.hid fun W (h : Rul W (.pointer (some ⟨b, 0, none⟩)) (min 4 4) [1, 1, 1, 0] [1, 9, 9, 3]) => cells_is W _ _ _ _ h 0 3 3 nb wb e2
  have C3 := Lib.hid fun W (h : Rul W (.pointer (some ⟨b, 0, none⟩)) (min 4 4) [1, 1, 1, 0] [1, 9, 9, 3]) => shown_is W _ _ _ _ h 0 3 1 nb wb e3
  have C4 := Lib.hid fun W (h : Rul W (.pointer (some ⟨b, 0, none⟩)) (min 4 4) [1, 1, 1, 0] [1, 9, 9, 3]) => shown_is W _ _ _ _ h 1 3 0 nb wb e4
  have C5 := Lib.hid fun W (h : Rul W (.pointer (some ⟨b, 0, none⟩)) (min 4 4) [1, 1, 1, 0] [1, 9, 9, 3]) => whole_is W _ _ _ _ h 3 false nb e5
  have C6 := Lib.hid fun W (h : Rul W (.pointer (some ⟨b, 0, none⟩)) (min 4 4) [1, 1, 1, 0] [1, 9, 9, 3]) => whole_is W _ _ _ _ h 4 true nb e6
  clear e1 e2 e3 e4 e5 e6 wb nb
  go_wp2_with (first
    | (go_at_call 14; (with_reducible refine (C1.out _ h1).mono ?_); rintro e w' ⟨rfl, rfl⟩)
    | (go_at_call 15; (with_reducible refine (C2.out _ h1).mono ?_); rintro e w2 ⟨rfl, h2, hb2⟩)
    | (go_at_call 16; (with_reducible refine (C3.out _ h2).mono ?_); rintro e w3 ⟨rfl, h3, hb3⟩)
    | (go_at_call 16; (with_reducible refine (C4.out _ h3).mono ?_); rintro e w4 ⟨rfl, h4, hb4⟩)
    | (go_at_call 17; (with_reducible refine (C5.out _ h4).mono ?_); rintro e w5 ⟨rfl, h5, hb5⟩)
    | (go_at_call 17; (with_reducible refine (C6.out _ h5).mono ?_); rintro e w6 ⟨rfl, h6, hb6⟩))
  go_ret
  exact ⟨rfl, hB.trans ((((hb2.trans (hb3.mono hb2.size)).trans (hb4.mono (Nat.le_trans hb2.size hb3.size))).trans (hb5.mono (Nat.le_trans hb2.size (Nat.le_trans hb3.size hb4.size)))).trans (hb6.mono (Nat.le_trans hb2.size (Nat.le_trans hb3.size (Nat.le_trans hb4.size hb5.size))))|>.mono hB.size)⟩

end Go.Proofs.Ytmonkeencbhcmaa.me
