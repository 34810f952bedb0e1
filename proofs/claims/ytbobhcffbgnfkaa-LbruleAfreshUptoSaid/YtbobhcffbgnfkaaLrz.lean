/-
  Layer 20: the walk of the statement LbruleAfresh.
-/
import Derived.Test.YtbobhcffbgnfkaaLrw
namespace Go.Proofs.Ytbobhcffbgnfkaa.lr
open Go.RowKit lb

set_option maxRecDepth 100000 in
set_option maxHeartbeats 8000000 in
theorem afresh_law (A : Option Addr) (n c : Nat) (zs : List Int) (A' : Option Addr) (n' c' : Nat) (zs' : List Int) (w : World)
    (hr : Rd w 1 A n (ints .u8 zs)) (hz : ∀ z ∈ zs, 0 ≤ z ∧ z ≤ 255) (hr' : Rd w 1 A' n' (ints .u8 zs')) (hz' : ∀ z ∈ zs', 0 ≤ z ∧ z ≤ 255) (hn : n + n' ≤ 1048576) :
    Calls Try.prog 5 #[.slice A n c, .slice A' n' c'] w fun e w' => e = .returned (.bool true) ∧ Below w.heap.size w w' := by
  obtain ⟨i0, hi, hz0, hz1, hz2⟩ := info_parts infoCl
  go_enter Try.func5, Try.ntmps5
  go_wp2_with fail
  refine (awake20_any _).mono ?_
  rintro e w1 ⟨rfl, hb1⟩
  go_wp2_with fail
  refine (classes43_any _ _ _ zs _ (hr.same hb1) (by omega) hz).mono ?_
  rintro e w2 ⟨v2, rfl, hown2, hb2⟩
  have hB2 := hb1.trans (hb2.mono hb1.size)
  go_wp2_with fail
  refine (classes43_any _ _ _ zs' _ (hr'.same hB2) (by omega) hz').mono ?_
  rintro e w3 ⟨v3, rfl, hown3, hb3⟩
  have hB3 := hB2.trans (hb3.mono hB2.size)
  obtain ⟨A2, c2, rfl, _, hl2⟩ := own_slice hown2
  obtain ⟨A3, c3, rfl, _, hl3⟩ := own_slice hown3
  replace hl2 := hl2.same hb3
  clear hown2 hown3 hb1 hb2 hb3 hB2 hr hr' hz hz'
  generalize classes43 zs = xa at *
  generalize classes43 zs' = xb at *
  have HLa := Lib.hid (show xa.length = n by simpa using hl2.1)
  have HLb := Lib.hid (show xb.length = n' by simpa using hl3.1)
  go_upto_region 9 with (first
    | (at_builtin; refine wpList_append_rd rfl (.tmp 17) (.tmp 18) 27 rfl w3.heap.size w3 w3.heap.size 29 i0 (.int .u8 0) 1 1 Try.underlying27 hi hz0 hz1 hz2 rfl (by decide) _ _ _ rfl (World.ownsRow_nil _ _ _ _) _ _ _ _ rfl hl2 ints_one (Below.refl _ _) (Nat.le_refl _) (Nat.le_refl _) (Nat.le_refl _) (by omega) (by omega) ?_; intro v4 w4 hown4 hb4 u1 u2; clear u1 u2; simp only [Nat.zero_add, List.nil_append] at hown4)
    | (at_builtin; refine wpList_append_one rfl (.tmp 20) (.tmp 21) 27 rfl w3.heap.size w3 w3.heap.size 29 i0 (.int .u8 0) 1 Try.underlying27 hi hz0 hz1 hz2 rfl _ _ _ rfl hown4 _ _ rfl _ rfl (by simp) hb4 hb4.size (Nat.le_refl _) hb4.size (by omega) (by omega) ?_; intro v5 w5 hown5 hb5 u1 u2; clear u1 u2; clear hown4 hb4)
    | (at_builtin; refine wpList_append_rd rfl (.tmp 23) (.tmp 24) 27 rfl w3.heap.size w3 w3.heap.size 29 i0 (.int .u8 0) 1 1 Try.underlying27 hi hz0 hz1 hz2 rfl (by decide) _ _ _ rfl hown5 _ _ _ _ rfl (hl3.same hb5) ints_one hb5 hb5.size (Nat.le_refl _) hb5.size (by omega) (by omega) ?_; intro v6 w6 hown6 hb6 u1 u2; clear u1 u2; have hl36 := hl3.same hb6; have hB6 := hB3.trans (hb6.mono hB3.size); obtain ⟨A6, c6, rfl, _, hl6⟩ := own_slice hown6; have hl6' : Rd _ 1 A6 (n + 1 + n') (ints .u8 (xa ++ 5 :: xb)) := (by simpa [ints] using hl6); clear hown5 hb5 hown6 hl3 hl2 hb6 hl6)
    | (go_at_call 10; (with_reducible refine (of_any _ _ _ (xa ++ 5 :: xb) _ hl6' (by omega)).mono ?_); rintro e w7 ⟨v7, rfl, hown7, hb7⟩; have hB7 := hB6.trans (hb7.mono hB6.size); have hl37 := hl36.same hb7; obtain ⟨A7, c7, rfl, _, _⟩ := own_slice hown7; clear hb7 hl6' hl36)
    | (go_at_call 13; (with_reducible refine (between_any _ _ _ _ (unitsOf (xa ++ 5 :: xb)) _ hown7 (by omega)).mono ?_); rintro e w8 ⟨v8, rfl, hown8, hb8⟩; have hB8 := hB7.trans (hb8.mono hB7.size); have hl38 := hl37.same hb8; obtain ⟨A8, c8, rfl, _, hl8⟩ := own_slice hown8; clear hb8 hl37 hown8 hown7)
    | (go_at_call 10; (with_reducible refine (of_any _ _ _ xb _ hl38 (by omega)).mono ?_); rintro e w9 ⟨v9, rfl, hown9, hb9⟩; have hB9 := hB8.trans (hb9.mono hB8.size); have hl89 := hl8.same hb9; obtain ⟨A9, c9, rfl, _, _⟩ := own_slice hown9; clear hb9 hl38 hl8)
    | (go_at_call 13; (with_reducible refine (between_any _ _ _ _ (unitsOf xb) _ hown9 (by omega)).mono ?_); rintro e wA ⟨vA, rfl, hownA, hbA⟩; have hBA := hB9.trans (hbA.mono hB9.size); have hl8A := hl89.same hbA; obtain ⟨AA, cA, rfl, _, hlA⟩ := own_slice hownA; clear hbA hl89 hownA hown9))
  have hvs : vs (xa ++ 5 :: xb) = vs xa ++ (5, false) :: vs xb := by simp [vs]
  rw [vOf_of, hvs] at hl8A
  rw [vOf_of] at hlA
  have HL := Lib.hid (show (vs xa).length = n by rw [vs_length, HLa.out])
  have HL2 := Lib.hid (show (vs xb).length = n' by rw [vs_length, HLb.out])
  have HF := Lib.hid (fun k h => status_fresh (vs xa) (vs xb) k h)
  have HM := Lib.hid (fun h => status_must (vs xa) (vs xb) h)
  clear hvs
  generalize vs xa = ua at *
  generalize vs xb = ub at *
  obtain ⟨n1, hn1⟩ : ∃ n1, n + 1 = n1 := ⟨_, rfl⟩
  have HN1 := Lib.hid hn1
  have hlen : Hid ((ua ++ ((5 : Int), false) :: ub).length = n + 1 + n') := by
    show _ = _
    simp only [List.length_append, List.length_cons, HL.out, HL2.out]; omega
  clear hn1
  go_wp2
  go_loopw [10] (fun i wr => ∃ k : Nat, 1 ≤ k ∧ k ≤ n' + 1 ∧ i = .int .i64 k ∧ Below wA.heap.size wA wr) (fun i _ => n' + 1 - (intOf i).toNat)
  case atStart => exact ⟨1, Nat.le_refl _, by omega, rfl, Below.refl _ _⟩
  case round =>
    obtain ⟨k, hk1, hk, rfl, hb⟩ := hrel
    by_cases hlt : k < n'
    · obtain ⟨j, hj⟩ : ∃ j, k = j + 1 := ⟨k - 1, by omega⟩
      obtain ⟨m, hm⟩ : ∃ m, n + 1 + k = m := ⟨_, rfl⟩
      have hst : statusAt (ua ++ (5, false) :: ub) m = statusAt ub k := by
        have := HF.out j (by rw [HL2.out]; omega)
        rw [HL.out, ← hj, hm] at this
        exact this
      obtain ⟨ad8, rfl, e8⟩ := (hl8A.same hb).cell_ (show (ints .i64 (between (ua ++ (5, false) :: ub)))[m]? = some (.int .i64 (statusAt ub k)) from by rw [ints, List.getElem?_map, between_at _ _ (by rw [hlen.out]; omega), hst]; rfl)
      obtain ⟨adA, rfl, eA⟩ := (hlA.same hb).cell_ (show (ints .i64 (between ub))[k]? = some (.int .i64 (statusAt ub k)) from by rw [ints, List.getElem?_map, between_at _ _ (by rw [HL2.out]; omega)]; rfl)
      have y1 : (m : Int) < (n : Int) + 1 + (n' : Int) := by omega
      have y2 : m < n + 1 + n' := by omega
      have y3 : (k : Int) < (n' : Int) := by omega
      have HMM := Lib.hid hm
      clear hl8A hlA hst hj hm
      generalize statusAt ub k = st at *
      go_upto_region 14 with (fail)
      have x1 : IntKind.i64.wrap ((n : Int) + 1) = (n : Int) + 1 := IntWalk.i64_in _ (by omega)
      have x2 : IntKind.i64.wrap ((n : Int) + 1 + (k : Int)) = (m : Int) := by rw [IntWalk.i64_in _ (by omega)]; have := HMM.out; omega
      go_quiet (fail)
      clear x1 x2
      go_wp2
      go_roundw
      case rel => exact ⟨k + 1, by omega, by omega, by go_num, drawn hb _⟩
      case measure => simp [intOf]; omega
    · have hge : n' ≤ k := by omega
      have hBb := hBA.trans (hb.mono hBA.size)
      rcases Nat.eq_zero_or_pos n' with h0 | h0
      · subst h0
        clear hl8A hlA
        go_wp2
        all_goals go_ret
        all_goals exact ⟨by first | rfl | simp, hBb⟩
      · obtain ⟨n1, hn1⟩ : ∃ n1, n + 1 = n1 := ⟨_, rfl⟩
        have hst : statusAt (ua ++ (5, false) :: ub) n1 = 2 := by
          have := HM.out (by rw [HL2.out]; exact h0)
          rw [HL.out, hn1] at this
          exact this
        obtain ⟨ad8, rfl, e8⟩ := (hl8A.same hb).cell_ (show (ints .i64 (between (ua ++ (5, false) :: ub)))[n1]? = some (.int .i64 2) from by rw [ints, List.getElem?_map, between_at _ _ (by rw [hlen.out]; omega), hst]; rfl)
        have y1 : (n1 : Int) < (n : Int) + 1 + (n' : Int) := by omega
        have y2 : n1 < n + 1 + n' := by omega
        have y3 : (n' == 0) = false := by simp; omega
        have y4 : ((n' : Int) == 0) = false := by simp; omega
        have x1 : (n : Int) + 1 = (n1 : Int) := by omega
        have HN := Lib.hid hn1
        clear hl8A hlA hst hn1
        go_wp2
        all_goals go_ret
        all_goals exact ⟨by first | rfl | simp, hBb⟩
end Go.Proofs.Ytbobhcffbgnfkaa.lr
