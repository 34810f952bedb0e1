/-
  Layer 14: the contracts of weak.Resolve, Like, Ints and of the document's examples over the program.
-/
import Derived.Test.YtbfglgbgchidgaaWkb
namespace Go.Proofs.Ytbfglgbgchidgaa.wk
open Go.RowKit

set_option maxHeartbeats 1000000 in
theorem resolve_any (A : Option Addr) (n c : Nat) (cs : List Int) (sos : Int) (w : World) (hr : Rd w 1 A n (ints .u8 cs)) (hn : n ≤ 140737488351232) :
    Calls Try.prog 11 #[.slice A n c, .int .u8 sos] w fun e w' => ∃ v, e = .returned v ∧ w'.ownsRow w.heap.size 26 1 v n (ints .u8 (weakL cs sos)) ∧ Below w.heap.size w w' := by
  obtain ⟨i0, hi, hz0, hz1, hz2⟩ := info_parts infoC
  go_enter Try.func11, Try.ntmps11
  go_wp2_with (first
    | (at_builtin; refine wpList_append_rd_wide rfl (.const (.slice none 0 0)) (.tmp 6) 24 rfl w.heap.size w w.heap.size 26 i0 (.int .u8 0) 1 1 Try.underlying24 hi hz0 hz1 hz2 rfl (by decide) _ _ _ rfl (World.ownsRow_nil _ _ _ _) _ _ _ _ rfl hr ints_one (Below.refl _ _) (Nat.le_refl _) (Nat.le_refl _) (Nat.le_refl _) (by omega) (by omega) ?_; intro v3 w3 hown3 hb3 u1 u2; clear u1 u2; simp only [Nat.zero_add, List.nil_append] at hown3; obtain ⟨A3, c3, rfl, _, _⟩ := own_slice hown3)
    | (go_at_call 14; (with_reducible refine (first_any _ _ _ cs sos _ _ hown3 hn).mono ?_); rintro e w4 ⟨rfl, hown4, hb4⟩)
    | (go_at_call 15; (with_reducible refine (numbers_any _ _ _ _ _ _ hown4 hn).mono ?_); rintro e w5 ⟨rfl, hown5, hb5⟩)
    | (go_at_call 16; (with_reducible refine (last_any _ _ _ _ sos _ _ hown5 hn).mono ?_); rintro e w6 ⟨rfl, hown6, hb6⟩))
  go_ret
  exact ⟨_, rfl, hown6, ((hb3.trans hb4).trans hb5).trans hb6⟩

set_option maxHeartbeats 400000 in
theorem ints_any (A : Option Addr) (n c : Nat) (zs : List Int) (w : World) (hr : Rd w 1 A n (ints .u8 zs)) (hn : n ≤ 2097152) (hz : ∀ z ∈ zs, 0 ≤ z ∧ z ≤ 255) :
    Calls Try.prog 13 #[.slice A n c] w fun e w' => ∃ v, e = .returned v ∧ w'.ownsRow w.heap.size 3 1 v n (ints .i64 zs) ∧ Below w.heap.size w w' := by
  obtain ⟨i0, hi, hz0, hz1, hz2⟩ := info_parts infoI
  have HL := Lib.hid (show zs.length = n by simpa using hr.1)
  go_enter Try.func13, Try.ntmps13
  go_wp2
  go_loopw [3, 8] (fun v i wr => ∃ k : Nat, k ≤ n ∧ i = .int .i64 k ∧ wr.ownsRow w.heap.size 3 1 v k (ints .i64 (zs.take k)) ∧ Below w.heap.size w wr)
    (fun _ i _ => n - (intOf i).toNat)
  case atStart => exact ⟨0, Nat.zero_le _, rfl, World.ownsRow_nil _ _ _ _, Below.refl _ _⟩
  case round =>
    obtain ⟨k, hk, rfl, hown, hb⟩ := hrel
    by_cases hlt : k < n
    · have hkz : k < zs.length := by rw [HL.out]; exact hlt
      obtain ⟨ad, rfl, hc⟩ := (hr.same hb).cell_ (ints_at (K := .u8) hkz)
      have hzk := hz zs[k] (List.getElem_mem hkz)
      have HT := Lib.hid (take_succ_ zs k hkz)
      clear hr
      generalize zs[k] = x at *
      go_wp2_with (first | (at_builtin; refine wpList_append_one rfl (.tmp 12) (.tmp 15) 30 rfl w.heap.size w w.heap.size 3 i0 (.int .i64 0) 8 Try.underlying30 hi hz0 hz1 hz2 rfl _ _ _ rfl hown _ _ rfl _ rfl (by simp) hb hb.size (Nat.le_refl _) hb.size (by omega) (by omega) ?_; intro v' w1 hown1 hb1 _ _))
      go_roundw
      case rel => exact ⟨k + 1, by omega, by go_num, by rw [HT.out]; simpa [ints] using hown1, hb1⟩
      case measure => simp [intOf]; omega
    · obtain rfl : n = k := by omega
      clear hr
      go_wp2
      go_ret
      refine ⟨_, rfl, ?_, hb⟩
      rw [List.take_of_length_le (by rw [HL.out]; omega)] at hown
      exact hown

theorem like_any (A : Option Addr) (n c : Nat) (A1 : Option Addr) (n1 c1 : Nat) (zs : List Int) (w : World) (hr : Rd w 1 A n (ints .u8 zs)) (hr1 : Rd w 1 A1 n1 (ints .i64 zs)) (hn : n ≤ 2097152) (hz : ∀ z ∈ zs, 0 ≤ z ∧ z ≤ 255) :
    Calls Try.prog 10 #[.slice A n c, .slice A1 n1 c1] w fun e w' => e = .returned (.bool true) ∧ Below w.heap.size w w' := by
  have HL := Lib.hid (show zs.length = n by simpa using hr.1)
  obtain rfl : n1 = n := by have := hr.1; have := hr1.1; simp at *; omega
  go_enter Try.func10, Try.ntmps10
  go_wp2
  go_loopw [5] (fun i wr => ∃ k : Nat, k ≤ n1 ∧ i = .int .i64 k ∧ Below w.heap.size w wr) (fun i _ => n1 - (intOf i).toNat)
  case atStart => exact ⟨0, Nat.zero_le _, rfl, Below.refl _ _⟩
  case round =>
    obtain ⟨k, hk, rfl, hb⟩ := hrel
    by_cases hlt : k < n1
    · have hkz : k < zs.length := by rw [HL.out]; exact hlt
      obtain ⟨ad, rfl, hc⟩ := (hr.same hb).cell_ (ints_at (K := .u8) hkz)
      obtain ⟨ad1, rfl, hc1⟩ := (hr1.same hb).cell_ (ints_at (K := .i64) hkz)
      have hzk := hz zs[k] (List.getElem_mem hkz)
      clear hr hr1
      generalize zs[k] = x at *
      go_wp2
      go_quiet (fail)
      go_wp2
      go_roundw
      case rel => exact ⟨k + 1, by omega, by go_num, drawn hb _⟩
      case measure => simp [intOf]; omega
    · go_wp2
      go_ret
      exact ⟨rfl, hb⟩
theorem aw1 : weakL [2, 8, 3] 1 = [1, 1, 6] := by decide +kernel
theorem aw2 : weakL [3, 7, 3, 5] 0 = [0, 0, 0, 0] := by decide +kernel
theorem aw3 : weakL [5, 6] 1 = [13, 6] := by decide +kernel
theorem aw4 : weakL [19, 8] 0 = [19, 13] := by decide +kernel

set_option maxRecDepth 100000 in
set_option maxHeartbeats 2000000 in
theorem awake14_any (w : World) : Calls Try.prog 7 #[] w fun e w' => e = .returned (.bool true) ∧ Below w.heap.size w w' := by
  have C1 := Lib.hid fun W : World => resolve_any (some ⟨W.heap.size, 0, none⟩) 3 3 [2, 8, 3] 1 (W.alloc (.cells #[.int .u8 2, .int .u8 8, .int .u8 3] 26)) (lit_rd (w := W) (g := W.heap.size) #[.int .u8 2, .int .u8 8, .int .u8 3] 3 (by omega) rfl rfl) (by omega)
  have C2 := Lib.hid fun W : World => resolve_any (some ⟨W.heap.size, 0, none⟩) 4 4 [3, 7, 3, 5] 0 (W.alloc (.cells #[.int .u8 3, .int .u8 7, .int .u8 3, .int .u8 5] 26)) (lit_rd (w := W) (g := W.heap.size) #[.int .u8 3, .int .u8 7, .int .u8 3, .int .u8 5] 4 (by omega) rfl rfl) (by omega)
  have C3 := Lib.hid fun W : World => resolve_any (some ⟨W.heap.size, 0, none⟩) 2 2 [5, 6] 1 (W.alloc (.cells #[.int .u8 5, .int .u8 6] 26)) (lit_rd (w := W) (g := W.heap.size) #[.int .u8 5, .int .u8 6] 2 (by omega) rfl rfl) (by omega)
  have C4 := Lib.hid fun W : World => resolve_any (some ⟨W.heap.size, 0, none⟩) 2 2 [19, 8] 0 (W.alloc (.cells #[.int .u8 19, .int .u8 8] 26)) (lit_rd (w := W) (g := W.heap.size) #[.int .u8 19, .int .u8 8] 2 (by omega) rfl rfl) (by omega)
  go_enter Try.func7, Try.ntmps7
  go_wp2_with fail
  refine (C1.out _).mono ?_
  rintro e w1 ⟨v1, rfl, hown1, hb1⟩
  rw [aw1] at hown1
  have hB1 : Below w.heap.size w w1 := ((Below.refl _ _).alloc (Nat.le_refl _) _).trans (hb1.mono (by simp))
  clear hb1
  go_wp2_with fail
  refine (C2.out _).mono ?_
  rintro e w2 ⟨v2, rfl, hown2, hb2⟩
  rw [aw2] at hown2
  have h12 : Below w1.heap.size w1 w2 := ((Below.refl _ _).alloc (Nat.le_refl _) _).trans (hb2.mono (by simp))
  replace hown1 := own_block hown1 fun g hg => h12.block g (hown1.lt g hg).2
  have hB2 := hB1.trans (h12.mono hB1.size)
  clear hb2 h12 hB1
  go_wp2_with fail
  refine (C3.out _).mono ?_
  rintro e w3 ⟨v3, rfl, hown3, hb3⟩
  rw [aw3] at hown3
  have h23 : Below w2.heap.size w2 w3 := ((Below.refl _ _).alloc (Nat.le_refl _) _).trans (hb3.mono (by simp))
  replace hown1 := own_block hown1 fun g hg => h23.block g (hown1.lt g hg).2
  replace hown2 := own_block hown2 fun g hg => h23.block g (hown2.lt g hg).2
  have hB3 := hB2.trans (h23.mono hB2.size)
  clear hb3 h23 hB2
  go_wp2_with fail
  refine (C4.out _).mono ?_
  rintro e w4 ⟨v4, rfl, hown4, hb4⟩
  rw [aw4] at hown4
  have h34 : Below w3.heap.size w3 w4 := ((Below.refl _ _).alloc (Nat.le_refl _) _).trans (hb4.mono (by simp))
  replace hown1 := own_block hown1 fun g hg => h34.block g (hown1.lt g hg).2
  replace hown2 := own_block hown2 fun g hg => h34.block g (hown2.lt g hg).2
  replace hown3 := own_block hown3 fun g hg => h34.block g (hown3.lt g hg).2
  have hB4 := hB3.trans (h34.mono hB3.size)
  clear hb4 h34 hB3
  obtain ⟨g1, c1, rfl, _, _⟩ := hown1.form (by simp)
  obtain ⟨g2, c2, rfl, _, _⟩ := hown2.form (by simp)
  obtain ⟨g3, c3, rfl, _, _⟩ := hown3.form (by simp)
  obtain ⟨g4, c4, rfl, _, _⟩ := hown4.form (by simp)
  have a1 := hown1.cellAt 1 (by simp)
  have a2 := hown1.cellAt 2 (by simp)
  have b1 := hown2.cellAt 1 (by simp)
  have b3 := hown2.cellAt 3 (by simp)
  have d0 := hown3.cellAt 0 (by simp)
  have d1 := hown3.cellAt 1 (by simp)
  have e1 := hown4.cellAt 1 (by simp)
  simp at a1 a2 b1 b3 d0 d1 e1
  clear hown1 hown2 hown3 hown4
  go_wp2
  go_ret
  exact ⟨rfl, hB4⟩
end Go.Proofs.Ytbfglgbgchidgaa.wk
