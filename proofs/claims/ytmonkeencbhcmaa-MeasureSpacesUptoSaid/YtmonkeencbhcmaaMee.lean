/-
  Layer 22: the walk of the statement MeasureParts.
-/
import Derived.Test.YtmonkeencbhcmaaMed
namespace Go.Proofs.Ytmonkeencbhcmaa.me
open Go.RowKit lb

theorem sumTo_mono (ws : List Int) (hw : ∀ z ∈ ws, 0 ≤ z ∧ z ≤ 2) (i j : Nat) (h : i ≤ j) : sumTo ws i ≤ sumTo ws j := by
  induction j with
  | zero => rw [show i = 0 from by omega]; exact Int.le_refl _
  | succ j ih =>
    rcases Nat.lt_or_ge j i with h1 | h1
    · rw [show i = j + 1 from by omega]; exact Int.le_refl _
    · refine Int.le_trans (ih h1) ?_
      by_cases hl : j < ws.length
      · rw [sumTo_succ ws j hl]
        have := hw _ (List.getElem_mem hl)
        omega
      · rw [sumTo, sumTo, List.take_of_length_le (show ws.length ≤ j from by omega), List.take_of_length_le (show ws.length ≤ j + 1 from by omega)]; exact Int.le_refl _
theorem solidTo_mono (cs : List Int) (i j : Nat) (h : i ≤ j) : solidTo cs i ≤ solidTo cs j := by
  induction j with
  | zero => rw [show i = 0 from by omega]; exact Nat.le_refl _
  | succ j ih =>
    rcases Nat.lt_or_ge j i with h1 | h1
    · rw [show i = j + 1 from by omega]; exact Nat.le_refl _
    · refine Nat.le_trans (ih h1) ?_
      rw [solidTo]
      have := solidTo_le cs j
      split <;> omega

theorem may_yes (n i j : Nat) (h : i ≤ j) (h1 : j ≤ n) : mayB n i j = true := by simp only [mayB, decide_eq_true_eq]; omega

set_option maxRecDepth 100000 in
set_option maxHeartbeats 4000000 in
theorem parts_law (A : Option Addr) (n c : Nat) (zs : List Int) (A' : Option Addr) (n' c' : Nat) (zs' : List Int) (x y z : Int) (w : World)
    (hr : Rd w 1 A n (ints .u8 zs)) (hz : ∀ z ∈ zs, 0 ≤ z ∧ z ≤ 255) (hr' : Rd w 1 A' n' (ints .u8 zs')) (hz' : ∀ z ∈ zs', 0 ≤ z ∧ z ≤ 255)
    (hx : 0 ≤ x ∧ x ≤ 255) (hy : 0 ≤ y ∧ y ≤ 255) (hzz : 0 ≤ z ∧ z ≤ 255) (hn : n + n' ≤ 1048576) :
    Calls Try.prog 4 #[.slice A n c, .slice A' n' c', .int .u8 x, .int .u8 y, .int .u8 z] w fun e w' => e = .returned (.bool true) ∧ Below w.heap.size w w' := by
  go_enter Try.func4, Try.ntmps4
  go_wp2_with fail
  refine (awake22_any _).mono ?_
  rintro e w1 ⟨rfl, hb1⟩
  go_wp2_with fail
  refine (widths_any _ _ _ zs _ (hr.same hb1) (by omega) hz).mono ?_
  rintro e w2 ⟨v2, rfl, hown2, hb2⟩
  have hB2 := hb1.trans (hb2.mono hb1.size)
  go_wp2_with fail
  refine (classes43_any _ _ _ zs' _ (hr'.same hB2) (by omega) hz').mono ?_
  rintro e w3 ⟨v3, rfl, hown3, hb3⟩
  have hB3 := hB2.trans (hb3.mono hB2.size)
  obtain ⟨A2, c2, rfl, _, hl2⟩ := own_slice hown2
  obtain ⟨A3, c3, rfl, _, hl3⟩ := own_slice hown3
  replace hl2 := hl2.same hb3
  have HW := Lib.hid (widths_bd zs)
  clear hown2 hown3 hb1 hb2 hb3 hB2 hr hr' hz hz'
  generalize widths zs = ws at *
  generalize classes43 zs' = cs at *
  obtain ⟨m, hm⟩ : ∃ m, min n n' = m := ⟨_, rfl⟩
  have hmn : m ≤ n := by omega
  have HM := Lib.hid hm
  clear hm
  go_wp2_with fail
  refine (of_any _ _ _ _ _ _ ws cs _ hl2 hl3 (by omega) HW.out).mono ?_
  rintro e w4 ⟨v4, rfl, h4, hb4⟩
  rw [HM.out] at h4
  have hB4 := hB3.trans (hb4.mono hB3.size)
  clear hb4 hB3 hl2 hl3
  obtain ⟨b, hv⟩ : ∃ b, v4 = .pointer (some ⟨b, 0, none⟩) := by
    obtain ⟨b, _, _, _, rfl, _⟩ := h4.ex
    exact ⟨b, rfl⟩
  subst hv
  have H4 := Lib.hid h4
  clear h4
  go_upto_region 5 with (go_at_call 14; (with_reducible refine (count_any _ _ _ _ _ H4.out).mono ?_); rintro e w' ⟨rfl, rfl⟩)
  obtain ⟨W, hW⟩ : ∃ W : World, W = w4 := ⟨_, rfl⟩
  subst hW
  go_cut [13] (fun s wx => ∃ i : Nat, i ≤ m ∧ s = .int .i64 i ∧ wx = W)
  case first =>
    go_wp2
    go_meet
    have h1 := Int.emod_nonneg x (show ((m : Int) + 1) ≠ 0 by omega)
    have h2 := Int.emod_lt_of_pos x (show (0 : Int) < (m : Int) + 1 by omega)
    exact ⟨(x % ((m : Int) + 1)).toNat, by omega, by congr 1; omega, rfl⟩
  case rest =>
    obtain ⟨i, hi, rfl, rfl⟩ := hcut
    obtain ⟨W, hW⟩ : ∃ W : World, W = wc := ⟨_, rfl⟩
    subst hW
    have p1 : (0 : Int) < (m : Int) + 1 - i := by omega
    go_upto_region 6 with (fail)
    go_cut [14] (fun s wx => ∃ j : Nat, i ≤ j ∧ j ≤ m ∧ s = .int .i64 j ∧ wx = W)
    case first =>
      have h1 := Int.emod_nonneg y (show ((m : Int) + 1 - i) ≠ 0 by omega)
      have h2 := Int.emod_lt_of_pos y p1
      go_wp2
      go_meet
      exact ⟨(i + y % ((m : Int) + 1 - i)).toNat, by omega, by omega, by congr 1; omega, rfl⟩
    case rest =>
      obtain ⟨j, hij, hj, rfl, rfl⟩ := hcut
      obtain ⟨W, hW⟩ : ∃ W : World, W = wc := ⟨_, rfl⟩
      subst hW
      have p2 : (0 : Int) < (m : Int) + 1 - j := by omega
      clear p1
      go_upto_region 7 with (fail)
      go_cut [15] (fun s wx => ∃ k : Nat, j ≤ k ∧ k ≤ m ∧ s = .int .i64 k ∧ wx = W)
      case first =>
        have h1 := Int.emod_nonneg z (show ((m : Int) + 1 - j) ≠ 0 by omega)
        have h2 := Int.emod_lt_of_pos z p2
        go_wp2
        go_meet
        exact ⟨(j + z % ((m : Int) + 1 - j)).toNat, by omega, by omega, by congr 1; omega, rfl⟩
      case rest =>
        obtain ⟨k, hjk, hk, rfl, rfl⟩ := hcut
        have hw := HW.out
        have q1 := sumTo_mono ws hw i j hij
        have q2 := sumTo_mono ws hw j k hjk
        have q3 := sumTo_mono ws hw (max i (solidTo cs j)) j (by have := solidTo_le cs j; omega)
        have q4 := sumTo_mono ws hw (max i (solidTo cs j)) (max i (solidTo cs k)) (by have := solidTo_mono cs j k hjk; omega)
        have q5 := sumTo_mono ws hw i (max i (solidTo cs j)) (by omega)
        have r1 := sumTo_bd ws hw i
        have r2 := sumTo_bd ws hw j
        have r3 := sumTo_bd ws hw k
        have r4 := sumTo_bd ws hw (max i (solidTo cs j))
        have r5 := sumTo_bd ws hw (max i (solidTo cs k))
        have t1 := solidTo_le cs j
        have t2 := solidTo_le cs k
        have E1 := cells_eq ws m i j (may_yes m i j hij hj)
        have E2 := cells_eq ws m j k (may_yes m j k hjk hk)
        have E3 := cells_eq ws m i k (may_yes m i k (by omega) hk)
        have E4 := shown_eq ws cs m i j (may_yes m i j hij hj)
        have E5 := shown_eq ws cs m i k (may_yes m i k (by omega) hk)
        have E6 := (shown_eq ws cs m i i (may_yes m i i (Nat.le_refl _) (by omega))).trans (shTo_start ws cs i)
        rw [shTo] at E4 E5
        generalize sumTo ws (max i (solidTo cs j)) = S4 at *
        generalize sumTo ws (max i (solidTo cs k)) = S5 at *
        generalize sumTo ws i = S1 at *
        generalize sumTo ws j = S2 at *
        generalize sumTo ws k = S3 at *
        have T1 := Lib.hid fun W (h : Rul W (.pointer (some ⟨b, 0, none⟩)) m ws cs) => cells_is W _ _ _ _ h i j _ (by omega) hw E1
        have T2 := Lib.hid fun W (h : Rul W (.pointer (some ⟨b, 0, none⟩)) m ws cs) => cells_is W _ _ _ _ h j k _ (by omega) hw E2
        have T3 := Lib.hid fun W (h : Rul W (.pointer (some ⟨b, 0, none⟩)) m ws cs) => cells_is W _ _ _ _ h i k _ (by omega) hw E3
        have T4 := Lib.hid fun W (h : Rul W (.pointer (some ⟨b, 0, none⟩)) m ws cs) => shown_is W _ _ _ _ h i j _ (by omega) hw E4
        have T5 := Lib.hid fun W (h : Rul W (.pointer (some ⟨b, 0, none⟩)) m ws cs) => shown_is W _ _ _ _ h i k _ (by omega) hw E5
        have T6 := Lib.hid fun W (h : Rul W (.pointer (some ⟨b, 0, none⟩)) m ws cs) => shown_is W _ _ _ _ h i i _ (by omega) hw E6
        clear E1 E2 E3 E4 E5 E6 hw t1 t2 p2
        have u1 : decide (S4 - S1 ≤ S2 - S1) = true := by simp; omega
        have u2 : decide (S4 - S1 ≤ S5 - S1) = true := by simp; omega
        have u3 : (S2 - S1 + (S3 - S2) == S3 - S1) = true := by simp; omega
        go_wp2_with (first
          | (go_at_call 15; (with_reducible refine (T1.out _ H4.out).mono ?_); rintro e w5 ⟨rfl, h5, hb5⟩; replace hB5 := hB4.trans (hb5.mono hB4.size); have H5 := Lib.hid h5; clear h5)
          | (go_at_call 15; (with_reducible refine (T2.out _ H5.out).mono ?_); rintro e w6 ⟨rfl, h6, hb6⟩; replace hB6 := hB5.trans (hb6.mono hB5.size); have H6 := Lib.hid h6; clear h6)
          | (go_at_call 15; (with_reducible refine (T3.out _ H6.out).mono ?_); rintro e w7 ⟨rfl, h7, hb7⟩; replace hB7 := hB6.trans (hb7.mono hB6.size); have H7 := Lib.hid h7; clear h7)
          | (go_at_call 16; (with_reducible refine (T4.out _ H7.out).mono ?_); rintro e w8 ⟨rfl, h8, hb8⟩; replace hB8 := hB7.trans (hb8.mono hB7.size); have H8 := Lib.hid h8; clear h8)
          | (go_at_call 15; (with_reducible refine (T1.out _ H8.out).mono ?_); rintro e w9 ⟨rfl, h9, hb9⟩; replace hB9 := hB8.trans (hb9.mono hB8.size); have H9 := Lib.hid h9; clear h9)
          | (go_at_call 16; (with_reducible refine (T4.out _ H9.out).mono ?_); rintro e wA ⟨rfl, hA, hbA⟩; replace hBA := hB9.trans (hbA.mono hB9.size); have HA := Lib.hid hA; clear hA)
          | (go_at_call 16; (with_reducible refine (T5.out _ HA.out).mono ?_); rintro e wB ⟨rfl, hB, hbB⟩; replace hBB := hBA.trans (hbB.mono hBA.size); have HB := Lib.hid hB; clear hB)
          | (go_at_call 16; (with_reducible refine (T6.out _ HB.out).mono ?_); rintro e wC ⟨rfl, hC, hbC⟩; replace hBC := hBB.trans (hbC.mono hBB.size); have HC := Lib.hid hC; clear hC))
        all_goals go_ret
        all_goals exact ⟨ret_bool (by first | rfl | simp), hBC⟩
end Go.Proofs.Ytmonkeencbhcmaa.me
