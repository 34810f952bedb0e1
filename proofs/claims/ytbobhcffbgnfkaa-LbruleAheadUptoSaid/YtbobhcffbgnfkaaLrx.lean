/-
  Layer 20: the walk of the statement LbruleAhead.
-/
import Derived.Test.YtbobhcffbgnfkaaLrw
namespace Go.Proofs.Ytbobhcffbgnfkaa.lr
open Go.RowKit lb

set_option maxRecDepth 100000 in
set_option maxHeartbeats 4000000 in
theorem ahead_law (A : Option Addr) (n c : Nat) (zs : List Int) (A' : Option Addr) (n' c' : Nat) (zs' : List Int) (w : World)
    (hr : Rd w 1 A n (ints .u8 zs)) (hz : ∀ z ∈ zs, 0 ≤ z ∧ z ≤ 255) (hr' : Rd w 1 A' n' (ints .u8 zs')) (hz' : ∀ z ∈ zs', 0 ≤ z ∧ z ≤ 255) (hn : n + n' ≤ 1048576) :
    Calls Try.prog 7 #[.slice A n c, .slice A' n' c'] w fun e w' => e = .returned (.bool true) ∧ Below w.heap.size w w' := by
  obtain ⟨i0, hi, hz0, hz1, hz2⟩ := info_parts infoCl
  go_enter Try.func7, Try.ntmps7
  go_wp2_with fail
  refine (awake20_any _).mono ?_
  rintro e w1 ⟨rfl, hb1⟩
  go_wp2_with fail
  refine (classes43_any _ _ _ zs _ (hr.same hb1) (by omega) hz).mono ?_
  rintro e w2 ⟨v2, rfl, hown2, hb2⟩
  have hB2 := hb1.trans (hb2.mono hb1.size)
  obtain ⟨A2, c2, rfl, _, hl2⟩ := own_slice hown2
  have hr2 := hr'.same hB2
  have HZ := Lib.hid hz'
  clear hown2 hb1 hb2 hr hr' hz hz'
  generalize classes43 zs = xa at *
  have HP := Lib.hid (fun k h => status_prefix (vs xa) (vs (classes43 zs')) k h)
  have HVS := Lib.hid (vs_append xa (classes43 zs'))
  go_wp2_with (first
    | (at_builtin; refine wpList_append_rd rfl (.const (.slice none 0 0)) (.tmp 14) 27 rfl w2.heap.size w2 w2.heap.size 29 i0 (.int .u8 0) 1 1 Try.underlying27 hi hz0 hz1 hz2 rfl (by decide) _ _ _ rfl (World.ownsRow_nil _ _ _ _) _ _ _ _ rfl hl2 ints_one (Below.refl _ _) (Nat.le_refl _) (Nat.le_refl _) (Nat.le_refl _) (by omega) (by omega) ?_; intro v3 w3 hown3 hb3 u1 u2; clear u1 u2; simp only [Nat.zero_add, List.nil_append] at hown3)
    | (go_at_call 11; (with_reducible refine (classes43_any _ _ _ zs' _ (hr2.same hb3) (by omega) HZ.out).mono ?_); rintro e w4 ⟨v4, rfl, hown4, hb4⟩; have hB4 : Below w2.heap.size w2 w4 := hb3.trans (hb4.mono hb3.size); have hown34 := own_block hown3 (fun g hg => hb4.block g (hown3.lt g hg).2); obtain ⟨A4, c4, rfl, _, hl4⟩ := own_slice hown4; clear hown4 hb4 hown3)
    | (at_builtin; refine wpList_append_rd rfl (.tmp 15) (.tmp 17) 27 rfl w2.heap.size w2 w2.heap.size 29 i0 (.int .u8 0) 1 1 Try.underlying27 hi hz0 hz1 hz2 rfl (by decide) _ _ _ rfl hown34 _ _ _ _ rfl hl4 ints_one hB4 hB4.size (Nat.le_refl _) hB4.size (by omega) (by omega) ?_; intro v5 w5 hown5 hb5 u1 u2; clear u1 u2; have hl25 := hl2.same hb5; have hB5 := hB2.trans (hb5.mono hB2.size); obtain ⟨A5, c5, rfl, _, hl5⟩ := own_slice hown5; rw [← ints_append] at hl5; clear hown5 hl2 hb3 hl4)
    | (go_at_call 10; (with_reducible refine (of_any _ _ _ xa _ hl25 (by omega)).mono ?_); rintro e w6 ⟨v6, rfl, hown6, hb6⟩; have hB6 := hB5.trans (hb6.mono hB5.size); have hl56 := hl5.same hb6; obtain ⟨A6, c6, rfl, _, _⟩ := own_slice hown6; clear hb6 hl5)
    | (go_at_call 13; (with_reducible refine (between_any _ _ _ _ (unitsOf xa) _ hown6 (by omega)).mono ?_); rintro e w7 ⟨v7, rfl, hown7, hb7⟩; have hB7 := hB6.trans (hb7.mono hB6.size); have hl57 := hl56.same hb7; obtain ⟨A7, c7, rfl, _, hl7⟩ := own_slice hown7; clear hb7 hl56 hown7)
    | (go_at_call 10; (with_reducible refine (of_any _ _ _ (xa ++ classes43 zs') _ hl57 (by omega)).mono ?_); rintro e w8 ⟨v8, rfl, hown8, hb8⟩; have hB8 := hB7.trans (hb8.mono hB7.size); have hl78 := hl7.same hb8; obtain ⟨A8, c8, rfl, _, _⟩ := own_slice hown8; clear hb8 hl57 hl7)
    | (go_at_call 13; (with_reducible refine (between_any _ _ _ _ (unitsOf (xa ++ classes43 zs')) _ hown8 (by omega)).mono ?_); rintro e w9 ⟨v9, rfl, hown9, hb9⟩; have hB9 := hB8.trans (hb9.mono hB8.size); have hl79 := hl78.same hb9; obtain ⟨A9, c9, rfl, _, hl9⟩ := own_slice hown9; clear hb9 hl78 hown9))
  rw [vOf_of] at hl79 hl9
  rw [HVS.out] at hl9
  have HL := Lib.hid (show (vs xa).length = n by have := hl79.1; simpa [between_length] using this)
  have HL2 := Lib.hid (show (vs xa ++ vs (classes43 zs')).length = n + n' by have := hl9.1; rw [ints, List.length_map, between_length] at this; omega)
  generalize vs xa = ua at *
  generalize vs (classes43 zs') = ub at *
  go_loopw [9] (fun i wr => ∃ k : Nat, k ≤ n ∧ i = .int .i64 k ∧ Below w9.heap.size w9 wr) (fun i _ => n - (intOf i).toNat)
  case atStart => exact ⟨0, Nat.zero_le _, rfl, Below.refl _ _⟩
  case round =>
    obtain ⟨k, hk, rfl, hb⟩ := hrel
    by_cases hlt : k + 1 < n
    · obtain ⟨ad7, rfl, e7⟩ := (hl79.same hb).cell_ (show (ints .i64 (between ua))[k]? = some (.int .i64 (statusAt ua k)) from by rw [ints, List.getElem?_map, between_at _ _ (by rw [HL.out]; omega)]; rfl)
      obtain ⟨ad9, rfl, e9⟩ := (hl9.same hb).cell_ (show (ints .i64 (between (ua ++ ub)))[k]? = some (.int .i64 (statusAt ua k)) from by rw [ints, List.getElem?_map, between_at _ _ (by rw [HL2.out]; omega), HP.out k (by rw [HL.out]; exact hlt)]; rfl)
      have b1 : (k : Int) < (n : Int) := by omega
      have b2 : (k : Int) < (n : Int) + (n' : Int) := by omega
      have b3 : k < n + n' := by omega
      clear hl79 hl9
      generalize statusAt ua k = st at *
      go_wp2
      go_quiet (fail)
      go_wp2
      go_roundw
      case rel => exact ⟨k + 1, by omega, by go_num, drawn hb _⟩
      case measure => simp [intOf]; omega
    · have hge : n ≤ k + 1 := by omega
      go_wp2
      go_ret
      exact ⟨rfl, hB9.trans (hb.mono hB9.size)⟩
end Go.Proofs.Ytbobhcffbgnfkaa.lr
