/-
  Layer 14: the walk of the statement WeakParts.
-/
import Derived.Test.YtmonkeencbhcmaaWke
namespace Go.Proofs.Ytmonkeencbhcmaa.wk
open Go.RowKit

set_option maxRecDepth 100000 in
set_option maxHeartbeats 4000000 in
theorem parts_law (A : Option Addr) (n c : Nat) (zs : List Int) (A' : Option Addr) (n' c' : Nat) (zs' : List Int) (b : Bool) (w : World)
    (hr : Rd w 1 A n (ints .u8 zs)) (hz : ∀ z ∈ zs, 0 ≤ z ∧ z ≤ 255) (hr' : Rd w 1 A' n' (ints .u8 zs')) (hz' : ∀ z ∈ zs', 0 ≤ z ∧ z ≤ 255) (hn : n + n' ≤ 1048576) :
    Calls Try.prog 9 #[.slice A n c, .slice A' n' c', .bool b] w fun e w' => e = .returned (.bool true) ∧ Below w.heap.size w w' := by
  obtain ⟨i0, hi, hz0, hz1, hz2⟩ := info_parts infoC
  go_enter Try.func9, Try.ntmps9
  go_wp2_with fail
  refine (awake14_any _).mono ?_
  rintro e w1 ⟨rfl, hb1⟩
  go_wp2_with fail
  refine (classes_any _ _ _ zs _ (hr.same hb1) (by omega) hz).mono ?_
  rintro e w2 ⟨v2, rfl, hown2, hb2⟩
  have hB2 := hb1.trans (hb2.mono hb1.size)
  go_wp2_with fail
  refine (classes_any _ _ _ zs' _ (hr'.same hB2) (by omega) hz').mono ?_
  rintro e w3 ⟨v3, rfl, hown3, hb3⟩
  have hB3 := hB2.trans (hb3.mono hB2.size)
  obtain ⟨A2, c2, rfl, _, hl2⟩ := own_slice hown2
  obtain ⟨A3, c3, rfl, _, hl3⟩ := own_slice hown3
  replace hl2 := hl2.same hb3
  clear hown2 hown3 hb1 hb2 hb3 hB2 hr hr' hz hz'
  generalize classes zs = xa at *
  generalize classes zs' = bs at *
  have HP := Lib.hid (weak_parts xa bs (sideOf b))
  go_upto_region 6 with (first
    | (at_builtin; refine wpList_append_rd rfl (.const (.slice none 0 0)) (.tmp 22) 37 rfl w3.heap.size w3 w3.heap.size 39 i0 (.int .u8 0) 1 1 Try.underlying37 hi hz0 hz1 hz2 rfl (by decide) _ _ _ rfl (World.ownsRow_nil _ _ _ _) _ _ _ _ rfl hl2 ints_one (Below.refl _ _) (Nat.le_refl _) (Nat.le_refl _) (Nat.le_refl _) (by omega) (by omega) ?_; intro v4 w4 hown4 hb4 u1 u2; clear u1 u2; simp only [Nat.zero_add, List.nil_append] at hown4)
    | (at_builtin; refine wpList_append_one rfl (.tmp 23) (.tmp 24) 37 rfl w3.heap.size w3 w3.heap.size 39 i0 (.int .u8 0) 1 Try.underlying37 hi hz0 hz1 hz2 rfl _ _ _ rfl hown4 _ _ rfl _ rfl (by simp) hb4 hb4.size (Nat.le_refl _) hb4.size (by omega) (by omega) ?_; intro v5 w5 hown5 hb5 u1 u2; clear u1 u2; have hl35 := hl3.same hb5; obtain ⟨A5, c5, rfl, _, hl5⟩ := own_slice hown5; clear hown4 hb4 hown5)
    | (at_builtin; refine wpList_append_rd rfl (.const (.slice none 0 0)) (.tmp 26) 37 rfl w5.heap.size w5 w5.heap.size 39 i0 (.int .u8 0) 1 1 Try.underlying37 hi hz0 hz1 hz2 rfl (by decide) _ _ _ rfl (World.ownsRow_nil _ _ _ _) _ _ _ _ rfl hl5 (by first | exact ints_one | (intro u hu; simp at hu; rcases hu with ⟨_, _, rfl⟩ | rfl <;> rfl)) (Below.refl _ _) (Nat.le_refl _) (Nat.le_refl _) (Nat.le_refl _) (by omega) (by omega) ?_; intro v6 w6 hown6 hb6 u1 u2; clear u1 u2; simp only [Nat.zero_add, List.nil_append] at hown6)
    | (at_builtin; refine wpList_append_rd rfl (.tmp 27) (.tmp 28) 37 rfl w5.heap.size w5 w5.heap.size 39 i0 (.int .u8 0) 1 1 Try.underlying37 hi hz0 hz1 hz2 rfl (by decide) _ _ _ rfl hown6 _ _ _ _ rfl (hl35.same hb6) ints_one hb6 hb6.size (Nat.le_refl _) hb6.size (by omega) (by omega) ?_; intro v7 w7 hown7 hb7 u1 u2; clear u1 u2; obtain ⟨A7, c7, rfl, _, hl7⟩ := own_slice hown7; clear hown6 hb6 hown7))
  have hB5 := hB3.trans (hb5.mono hB3.size)
  have hB7 := hB5.trans (hb7.mono hB5.size)
  replace hl5 := hl5.same hb7
  replace hl35 := hl35.same hb7
  replace hl2 := (hl2.same hb5).same hb7
  replace hl5 : Rd w7 1 A5 (n + 1) (ints .u8 (xa ++ [1])) := by simpa [ints] using hl5
  replace hl7 : Rd w7 1 A7 (n + 1 + n') (ints .u8 (xa ++ [1] ++ bs)) := by simpa [ints] using hl7
  clear hB3 hb5 hB5 hb7 hl3
  go_wp2_with (first
    | (go_at_call 20; (with_reducible refine (side_any _ _).mono ?_); rintro e w' ⟨rfl, rfl⟩)
    | (go_at_call 22; (with_reducible refine (resolve_any _ _ _ (xa ++ [1]) (sideOf b) _ hl5 (by omega)).mono ?_); rintro e w8 ⟨v8, rfl, hown8, hb8⟩; have hB8 := hB7.trans (hb8.mono hB7.size); obtain ⟨A8, c8, rfl, _, hl8⟩ := own_slice hown8; have hl38 := hl35.same hb8; have hl78 := hl7.same hb8; have hl28 := hl2.same hb8; clear hown8 hb8 hB7 hl35 hl7 hl2 hl5)
    | (go_at_call 22; (with_reducible refine (resolve_any _ _ _ bs 1 _ hl38 (by omega)).mono ?_); rintro e w9 ⟨v9, rfl, hown9, hb9⟩; have hB9 := hB8.trans (hb9.mono hB8.size); obtain ⟨A9, c9, rfl, _, hl9⟩ := own_slice hown9; have hl79 := hl78.same hb9; have hl89 := hl8.same hb9; clear hown9 hb9 hB8 hl38 hl78 hl8)
    | (go_at_call 22; (with_reducible refine (resolve_any _ _ _ (xa ++ [1] ++ bs) (sideOf b) _ hl79 (by omega)).mono ?_); rintro e wA ⟨vA, rfl, hownA, hbA⟩; rw [HP.out] at hownA; have hBA := hB9.trans (hbA.mono hB9.size); obtain ⟨AA, cA, rfl, _, hlA⟩ := own_slice hownA; have hl8A := hl89.same hbA; have hl9A := hl9.same hbA; clear hownA hbA hB9 hl79 hl9 hl89))
  generalize weakL (xa ++ [1]) (sideOf b) = xs at *
  generalize weakL bs 1 = ys at *
  have HL8 := Lib.hid (show xs.length = n + 1 by simpa using hl8A.1)
  have HL9 := Lib.hid (show ys.length = n' by simpa using hl9A.1)
  go_loopw [62] (fun i wr => ∃ k : Nat, k ≤ n + 1 + n' ∧ i = .int .i64 k ∧ Below wA.heap.size wA wr) (fun i _ => n + 1 + n' - (intOf i).toNat)
  case atStart => exact ⟨0, Nat.zero_le _, rfl, Below.refl _ _⟩
  case round =>
    obtain ⟨k, hk, rfl, hb⟩ := hrel
    by_cases hlt : k < n + 1 + n'
    · by_cases hkx : k < n + 1
      · have hk8 : k < xs.length := by rw [HL8.out]; exact hkx
        obtain ⟨ad8, rfl, e8⟩ := (hl8A.same hb).cell_ (ints_at (K := .u8) hk8)
        obtain ⟨adA, rfl, eA⟩ := (hlA.same hb).cell_ (show (ints .u8 (xs ++ ys))[k]? = some (.int .u8 xs[k]) from by rw [ints, List.getElem?_map, List.getElem?_append_left hk8, List.getElem?_eq_getElem hk8]; rfl)
        clear hl8A hlA hl9A hl28
        generalize xs[k] = x at *
        go_wp2
        all_goals go_roundw
        all_goals first | (case rel => exact ⟨k + 1, by omega, by go_num, hb⟩) | (case measure => simp [intOf]; omega)
      · obtain ⟨j, hj⟩ : ∃ j, k = n + 1 + j := ⟨k - (n + 1), by omega⟩
        have hk9 : j < ys.length := by rw [HL9.out]; omega
        have hjn : j < n' := by omega
        obtain ⟨ad9, rfl, e9⟩ := (hl9A.same hb).cell_ (ints_at (K := .u8) hk9)
        obtain ⟨adA, rfl, eA⟩ := (hlA.same hb).cell_ (show (ints .u8 (xs ++ ys))[k]? = some (.int .u8 ys[j]) from by
          rw [ints, List.getElem?_map, List.getElem?_append_right (by rw [HL8.out]; omega), HL8.out, show k - (n + 1) = j from by omega, List.getElem?_eq_getElem hk9]; rfl)
        have x1 : (k : Int) - ((n : Int) + 1) = (j : Int) := by omega
        have x2 : decide (k < n + 1) = false := by simp; omega
        have x3 : n + 1 ≤ k := by omega
        have x4 : (n : Int) + 1 ≤ (k : Int) := by omega
        clear hl8A hlA hl9A hl28 hj
        generalize ys[j] = y at *
        go_wp2
        all_goals go_roundw
        all_goals first | (case rel => exact ⟨k + 1, by omega, by go_num, hb⟩) | (case measure => simp [intOf]; omega)
    · go_wp2
      go_ret
      exact ⟨rfl, hBA.trans (hb.mono hBA.size)⟩
end Go.Proofs.Ytmonkeencbhcmaa.wk
