/-
  Layer 20: units of classes; the document's examples over the program.
-/
import Derived.Test.YtbobhcffbgnfkaaLrv
import Derived.Test.YtbobhcffbgnfkaaLrq
import Derived.Test.YtbobhcffbgnfkaaLcl
namespace Go.Proofs.Ytbobhcffbgnfkaa.lr
open Go.RowKit lb

/-- the classes of some units, none joined -/
def vs (cs : List Int) : List V := cs.map fun c => (c, false)
theorem vs_append (a b : List Int) : vs (a ++ b) = vs a ++ vs b := by simp [vs]
theorem vs_length (a : List Int) : (vs a).length = a.length := by simp [vs]
theorem vOf_of (cs : List Int) : vOf (unitsOf cs) = vs cs := by
  apply List.ext_getElem?
  intro k
  simp only [vOf, unitsOf, vs, List.getElem?_map]
  by_cases h : k < cs.length
  · simp [h, List.getD_eq_getElem?_getD]
  · simp [h]
theorem ints_append (K : IntKind) (a b : List Int) : ints K (a ++ b) = ints K a ++ ints K b := by simp [ints]

theorem aw0 : between (vOf (unitsOf [1, 9, 1])) = [0, 0, 1] := by decide +kernel
theorem aw1 : between (vOf (unitsOf [6, 7, 1])) = [0, 0, 2] := by decide +kernel
theorem aw2 : between (vOf (unitsOf [33, 33, 33])) = [0, 0, 1] := by decide +kernel
theorem aw3 : between (vOf (unitsOf [29, 21, 27])) = [0, 0, 0] := by decide +kernel
theorem aw4 : between (vOf (unitsOf [22, 9, 21])) = [0, 0, 0] := by decide +kernel

set_option maxRecDepth 100000 in
set_option maxHeartbeats 8000000 in
theorem awake20_any (w : World) : Calls Try.prog 9 #[] w fun e w' => e = .returned (.bool true) ∧ Below w.heap.size w w' := by
  have C0 := Lib.hid fun W : World => of_any (some ⟨W.heap.size, 0, none⟩) 3 3 [1, 9, 1] (W.alloc (.cells #[.int .u8 1, .int .u8 9, .int .u8 1] 29)) (lit_rd (w := W) (g := W.heap.size) #[.int .u8 1, .int .u8 9, .int .u8 1] 3 (by omega) rfl rfl) (by omega)
  have D0 := Lib.hid fun (W : World) (A : Option Addr) (c : Nat) (h : Rd W 1 A 3 (ints .i64 [0, 0, 1])) => are_yes A 3 c (some ⟨W.heap.size, 0, none⟩) 3 3 [0, 0, 1] (W.alloc (.cells #[.int .i64 0, .int .i64 0, .int .i64 1] 3)) (h.alloc _) (lit_rd (w := W) (g := W.heap.size) #[.int .i64 0, .int .i64 0, .int .i64 1] 3 (by omega) rfl rfl) (by omega)
  have C1 := Lib.hid fun W : World => of_any (some ⟨W.heap.size, 0, none⟩) 3 3 [6, 7, 1] (W.alloc (.cells #[.int .u8 6, .int .u8 7, .int .u8 1] 29)) (lit_rd (w := W) (g := W.heap.size) #[.int .u8 6, .int .u8 7, .int .u8 1] 3 (by omega) rfl rfl) (by omega)
  have D1 := Lib.hid fun (W : World) (A : Option Addr) (c : Nat) (h : Rd W 1 A 3 (ints .i64 [0, 0, 2])) => are_yes A 3 c (some ⟨W.heap.size, 0, none⟩) 3 3 [0, 0, 2] (W.alloc (.cells #[.int .i64 0, .int .i64 0, .int .i64 2] 3)) (h.alloc _) (lit_rd (w := W) (g := W.heap.size) #[.int .i64 0, .int .i64 0, .int .i64 2] 3 (by omega) rfl rfl) (by omega)
  have C2 := Lib.hid fun W : World => of_any (some ⟨W.heap.size, 0, none⟩) 3 3 [33, 33, 33] (W.alloc (.cells #[.int .u8 33, .int .u8 33, .int .u8 33] 29)) (lit_rd (w := W) (g := W.heap.size) #[.int .u8 33, .int .u8 33, .int .u8 33] 3 (by omega) rfl rfl) (by omega)
  have D2 := Lib.hid fun (W : World) (A : Option Addr) (c : Nat) (h : Rd W 1 A 3 (ints .i64 [0, 0, 1])) => are_yes A 3 c (some ⟨W.heap.size, 0, none⟩) 3 3 [0, 0, 1] (W.alloc (.cells #[.int .i64 0, .int .i64 0, .int .i64 1] 3)) (h.alloc _) (lit_rd (w := W) (g := W.heap.size) #[.int .i64 0, .int .i64 0, .int .i64 1] 3 (by omega) rfl rfl) (by omega)
  have C3 := Lib.hid fun W : World => of_any (some ⟨W.heap.size, 0, none⟩) 3 3 [29, 21, 27] (W.alloc (.cells #[.int .u8 29, .int .u8 21, .int .u8 27] 29)) (lit_rd (w := W) (g := W.heap.size) #[.int .u8 29, .int .u8 21, .int .u8 27] 3 (by omega) rfl rfl) (by omega)
  have D3 := Lib.hid fun (W : World) (A : Option Addr) (c : Nat) (h : Rd W 1 A 3 (ints .i64 [0, 0, 0])) => are_yes A 3 c (some ⟨W.heap.size, 0, none⟩) 3 3 [0, 0, 0] (W.alloc (.cells #[.int .i64 0, .int .i64 0, .int .i64 0] 3)) (h.alloc _) (lit_rd (w := W) (g := W.heap.size) #[.int .i64 0, .int .i64 0, .int .i64 0] 3 (by omega) rfl rfl) (by omega)
  have C4 := Lib.hid fun W : World => of_any (some ⟨W.heap.size, 0, none⟩) 3 3 [22, 9, 21] (W.alloc (.cells #[.int .u8 22, .int .u8 9, .int .u8 21] 29)) (lit_rd (w := W) (g := W.heap.size) #[.int .u8 22, .int .u8 9, .int .u8 21] 3 (by omega) rfl rfl) (by omega)
  have D4 := Lib.hid fun (W : World) (A : Option Addr) (c : Nat) (h : Rd W 1 A 3 (ints .i64 [0, 0, 0])) => are_yes A 3 c (some ⟨W.heap.size, 0, none⟩) 3 3 [0, 0, 0] (W.alloc (.cells #[.int .i64 0, .int .i64 0, .int .i64 0] 3)) (h.alloc _) (lit_rd (w := W) (g := W.heap.size) #[.int .i64 0, .int .i64 0, .int .i64 0] 3 (by omega) rfl rfl) (by omega)
  go_enter Try.func9, Try.ntmps9
  have hB := Below.refl w.heap.size w
  go_wp2_with (first
    | (go_at_call 10; (with_reducible refine (C0.out _).mono ?_); rintro e w0a ⟨va, rfl, hown0, hb⟩; have hB0a := hB.trans (((Below.refl _ _).alloc (Nat.le_refl _) _).trans (hb.mono (by simp)) |>.mono hB.size); obtain ⟨A0, c0, rfl, _, _⟩ := own_slice hown0; clear hb hB)
    | (go_at_call 13; (with_reducible refine (between_any _ _ _ _ _ _ hown0 (by decide)).mono ?_); rintro e w0b ⟨vb, rfl, hr0, hb⟩; have hB0b := hB0a.trans (hb.mono hB0a.size); rw [aw0] at hr0; obtain ⟨E0, d0, rfl, _, hl0⟩ := own_slice hr0; clear hb hB0a hown0 hr0)
    | (go_at_call 12; (with_reducible refine (D0.out _ _ _ hl0).mono ?_); rintro e w0c ⟨rfl, hb⟩; have hB0c := hB0b.trans (((Below.refl _ _).alloc (Nat.le_refl _) _).trans (hb.mono (by simp)) |>.mono hB0b.size); clear hb hB0b hl0)
    | (go_at_call 10; (with_reducible refine (C1.out _).mono ?_); rintro e w1a ⟨va, rfl, hown1, hb⟩; have hB1a := hB0c.trans (((Below.refl _ _).alloc (Nat.le_refl _) _).trans (hb.mono (by simp)) |>.mono hB0c.size); obtain ⟨A1, c1, rfl, _, _⟩ := own_slice hown1; clear hb hB0c)
    | (go_at_call 13; (with_reducible refine (between_any _ _ _ _ _ _ hown1 (by decide)).mono ?_); rintro e w1b ⟨vb, rfl, hr1, hb⟩; have hB1b := hB1a.trans (hb.mono hB1a.size); rw [aw1] at hr1; obtain ⟨E1, d1, rfl, _, hl1⟩ := own_slice hr1; clear hb hB1a hown1 hr1)
    | (go_at_call 12; (with_reducible refine (D1.out _ _ _ hl1).mono ?_); rintro e w1c ⟨rfl, hb⟩; have hB1c := hB1b.trans (((Below.refl _ _).alloc (Nat.le_refl _) _).trans (hb.mono (by simp)) |>.mono hB1b.size); clear hb hB1b hl1)
    | (go_at_call 10; (with_reducible refine (C2.out _).mono ?_); rintro e w2a ⟨va, rfl, hown2, hb⟩; have hB2a := hB1c.trans (((Below.refl _ _).alloc (Nat.le_refl _) _).trans (hb.mono (by simp)) |>.mono hB1c.size); obtain ⟨A2, c2, rfl, _, _⟩ := own_slice hown2; clear hb hB1c)
    | (go_at_call 13; (with_reducible refine (between_any _ _ _ _ _ _ hown2 (by decide)).mono ?_); rintro e w2b ⟨vb, rfl, hr2, hb⟩; have hB2b := hB2a.trans (hb.mono hB2a.size); rw [aw2] at hr2; obtain ⟨E2, d2, rfl, _, hl2⟩ := own_slice hr2; clear hb hB2a hown2 hr2)
    | (go_at_call 12; (with_reducible refine (D2.out _ _ _ hl2).mono ?_); rintro e w2c ⟨rfl, hb⟩; have hB2c := hB2b.trans (((Below.refl _ _).alloc (Nat.le_refl _) _).trans (hb.mono (by simp)) |>.mono hB2b.size); clear hb hB2b hl2)
    | (go_at_call 10; (with_reducible refine (C3.out _).mono ?_); rintro e w3a ⟨va, rfl, hown3, hb⟩; have hB3a := hB2c.trans (((Below.refl _ _).alloc (Nat.le_refl _) _).trans (hb.mono (by simp)) |>.mono hB2c.size); obtain ⟨A3, c3, rfl, _, _⟩ := own_slice hown3; clear hb hB2c)
    | (go_at_call 13; (with_reducible refine (between_any _ _ _ _ _ _ hown3 (by decide)).mono ?_); rintro e w3b ⟨vb, rfl, hr3, hb⟩; have hB3b := hB3a.trans (hb.mono hB3a.size); rw [aw3] at hr3; obtain ⟨E3, d3, rfl, _, hl3⟩ := own_slice hr3; clear hb hB3a hown3 hr3)
    | (go_at_call 12; (with_reducible refine (D3.out _ _ _ hl3).mono ?_); rintro e w3c ⟨rfl, hb⟩; have hB3c := hB3b.trans (((Below.refl _ _).alloc (Nat.le_refl _) _).trans (hb.mono (by simp)) |>.mono hB3b.size); clear hb hB3b hl3)
    | (go_at_call 10; (with_reducible refine (C4.out _).mono ?_); rintro e w4a ⟨va, rfl, hown4, hb⟩; have hB4a := hB3c.trans (((Below.refl _ _).alloc (Nat.le_refl _) _).trans (hb.mono (by simp)) |>.mono hB3c.size); obtain ⟨A4, c4, rfl, _, _⟩ := own_slice hown4; clear hb hB3c)
    | (go_at_call 13; (with_reducible refine (between_any _ _ _ _ _ _ hown4 (by decide)).mono ?_); rintro e w4b ⟨vb, rfl, hr4, hb⟩; have hB4b := hB4a.trans (hb.mono hB4a.size); rw [aw4] at hr4; obtain ⟨E4, d4, rfl, _, hl4⟩ := own_slice hr4; clear hb hB4a hown4 hr4)
    | (go_at_call 12; (with_reducible refine (D4.out _ _ _ hl4).mono ?_); rintro e w4c ⟨rfl, hb⟩; have hB4c := hB4b.trans (((Below.refl _ _).alloc (Nat.le_refl _) _).trans (hb.mono (by simp)) |>.mono hB4b.size); clear hb hB4b hl4))
  go_ret
  exact ⟨rfl, hB4c⟩
end Go.Proofs.Ytbobhcffbgnfkaa.lr
