/-
  Layer 14: the walk of the statement WeakNone.
-/
import Derived.Test.YtbfglgbgchidgaaWkc
namespace Go.Proofs.Ytbfglgbgchidgaa.wk
open Go.RowKit

theorem side_is (b : Bool) : sideOf b = 0 ∨ sideOf b = 1 := by cases b <;> simp [sideOf]
theorem classes_bd (zs : List Int) : ∀ z ∈ classes zs, 0 ≤ z ∧ z ≤ 22 := by
  intro z hz
  simp only [classes, List.mem_map] at hz
  obtain ⟨x, _, rfl⟩ := hz
  omega

set_option maxRecDepth 100000 in
set_option maxHeartbeats 4000000 in
theorem none_law (A : Option Addr) (n c : Nat) (zs : List Int) (b : Bool) (w : World)
    (hr : Rd w 1 A n (ints .u8 zs)) (hz : ∀ z ∈ zs, 0 ≤ z ∧ z ≤ 255) (hn : n ≤ 140737488351232) :
    Calls Try.prog 4 #[.slice A n c, .bool b] w fun e w' => e = .returned (.bool true) ∧ Below w.heap.size w w' := by
  go_enter Try.func4, Try.ntmps4
  go_wp2_with fail
  refine (awake14_any _).mono ?_
  rintro e w1 ⟨rfl, hb1⟩
  go_wp2_with fail
  refine (classes_any _ _ _ zs _ (hr.same hb1) (by omega) hz).mono ?_
  rintro e w2 ⟨v2, rfl, hown2, hb2⟩
  have hB2 := hb1.trans (hb2.mono hb1.size)
  obtain ⟨A2, c2, rfl, _, hl2⟩ := own_slice hown2
  have hr2 := hr.same hB2
  have HN := Lib.hid (weak_none (classes zs) (sideOf b) (by have := side_is b; omega))
  have HZ := Lib.hid hz
  clear hown2 hb1 hb2 hr hz
  go_wp2_with (first
    | (go_at_call 9; (with_reducible refine (side_any _ _).mono ?_); rintro e w' ⟨rfl, rfl⟩)
    | (go_at_call 11; (with_reducible refine (resolve_any _ _ _ (classes zs) (sideOf b) _ hl2 (by omega)).mono ?_); rintro e w3 ⟨v3, rfl, hown3, hb3⟩; have hB3 := hB2.trans (hb3.mono hB2.size); have hr3 := hr2.same hb3; have hl23 := hl2.same hb3; obtain ⟨A3, c3, rfl, _, hl3⟩ := own_slice hown3; clear hown3 hb3 hB2 hr2 hl2)
    | (go_at_call 8; (with_reducible refine (classes_any _ _ _ zs _ hr3 (by omega) HZ.out).mono ?_); rintro e w4 ⟨v4, rfl, hown4, hb4⟩; have hB4 := hB3.trans (hb4.mono hB3.size); have hl24 := hl23.same hb4; have hl34 := hl3.same hb4; obtain ⟨A4, c4, rfl, _, hl4⟩ := own_slice hown4; clear hown4 hb4 hB3 hr3 hl23 hl3))
  generalize classes zs = cs at *
  obtain ⟨os, hos⟩ : ∃ os, weakL cs (sideOf b) = os := ⟨_, rfl⟩
  rw [hos] at hl34
  replace HN : Hid (Pw noneR cs os) := by rw [← hos]; exact HN.out
  clear hos
  have HL2 := Lib.hid (show cs.length = n by simpa using hl24.1)
  have HL3 := Lib.hid (show os.length = n by simpa using hl34.1)
  go_loopw [8] (fun i wr => ∃ k : Nat, k ≤ n ∧ i = .int .i64 k ∧ Below w4.heap.size w4 wr) (fun i _ => n - (intOf i).toNat)
  case atStart => exact ⟨0, Nat.zero_le _, rfl, Below.refl _ _⟩
  case round =>
    obtain ⟨k, hk, rfl, hb⟩ := hrel
    by_cases hlt : k < n
    · have hk2 : k < cs.length := by rw [HL2.out]; exact hlt
      have hk3 : k < os.length := by rw [HL3.out]; exact hlt
      obtain ⟨ad2, rfl, e2⟩ := (hl24.same hb).cell_ (ints_at (K := .u8) hk2)
      obtain ⟨ad3, rfl, e3⟩ := (hl34.same hb).cell_ (ints_at (K := .u8) hk3)
      obtain ⟨ad4, rfl, e4⟩ := (hl4.same hb).cell_ (ints_at (K := .u8) hk2)
      have hnr := HN.out.at_ k hk2 hk3
      clear hl24 hl34 hl4
      generalize cs[k] = x at *
      generalize os[k] = o at *
      unfold noneR at hnr
      obtain ⟨n1, n2, n3, n4, n5, n6, n7⟩ := hnr
      have p2 : (o == 2) = false := by simpa using n3
      have p8 : (o == 8) = false := by simpa using n4
      have p4 : (o == 4) = false := by simpa using n5
      have p5 : (o == 5) = false := by simpa using n6
      have p7 : (o == 7) = false := by simpa using n7
      clear n3 n4 n5 n6 n7
      have hcases : (x = 0 ∧ o = 0) ∨ (x = 1 ∧ o = 1) ∨ ((x == 0) = false ∧ (x == 1) = false ∧ decide (8 < x) = true ∧ (x == 2) = false ∧ o = x) ∨ (x = 2 ∧ o = 1) ∨
          ((x == 0) = false ∧ (x == 1) = false ∧ decide (8 < x) = false ∧ (x == 2) = false) := by
        simp only [beq_eq_false_iff_ne, ne_eq, decide_eq_true_eq, decide_eq_false_iff_not]
        omega
      clear n1 n2
      rcases hcases with ⟨rfl, rfl⟩ | ⟨rfl, rfl⟩ | ⟨h0, h1, h8, h2, rfl⟩ | ⟨rfl, rfl⟩ | ⟨h0, h1, h8, h2⟩
      all_goals
        go_wp2
        go_quiet (fail)
        go_wp2
        go_quiet (fail)
        go_wp2
        go_roundw
        case rel => exact ⟨k + 1, by omega, by go_num, by first | exact drawn (drawn hb _) _ | exact drawn hb _⟩
        case measure => simp [intOf]; omega
    · go_wp2
      go_ret
      exact ⟨rfl, hB4.trans (hb.mono hB4.size)⟩
end Go.Proofs.Ytbfglgbgchidgaa.wk
