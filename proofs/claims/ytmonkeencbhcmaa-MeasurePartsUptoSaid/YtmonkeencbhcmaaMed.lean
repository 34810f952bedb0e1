/-
  Layer 22: the walk of the statement MeasureCells.
-/
import Derived.Test.YtmonkeencbhcmaaMec
namespace Go.Proofs.Ytmonkeencbhcmaa.me
open Go.RowKit lb

theorem cls_nine (c : Int) : cls c = 9 ↔ c = 9 := by
  unfold cls
  split
  · omega
  · split <;> omega

/-- what the statement reckons for the cells up to a place, the spaces at the end left out -/
def shTo (ws cs : List Int) (i k : Nat) : Int := sumTo ws (max i (solidTo cs k)) - sumTo ws i

theorem shTo_start (ws cs : List Int) (i : Nat) : shTo ws cs i i = 0 := by
  have := solidTo_le cs i
  rw [shTo, show max i (solidTo cs i) = i from by omega]; omega
theorem shTo_succ (ws cs : List Int) (i k : Nat) (h : i ≤ k) (hk : k < cs.length) :
    shTo ws cs i (k + 1) = if cs[k] = 9 then shTo ws cs i k else sumTo ws (k + 1) - sumTo ws i := by
  have hg : cs.getD k 0 = cs[k] := by rw [List.getD_eq_getElem?_getD, List.getElem?_eq_getElem hk]; rfl
  simp only [shTo, solidTo, cls_nine, hg]
  split
  · rfl
  · rw [show max i (k + 1) = k + 1 from by omega]
theorem cells_eq (ws : List Int) (n i j : Nat) (h : mayB n i j = true) : cellsOf ws n i j = sumTo ws j - sumTo ws i := by
  rw [cellsOf, if_pos h]; simp
theorem shown_eq (ws cs : List Int) (n i j : Nat) (h : mayB n i j = true) : shownOf ws cs n i j = shTo ws cs i j := by
  have h' := h
  simp only [mayB, decide_eq_true_eq] at h'
  have hs := solidTo_le cs j
  rw [shownOf, if_pos h, shTo]
  have e : (max (i : Int) (solidTo cs (j : Int).toNat : Int)) = ((max i (solidTo cs j) : Nat) : Int) := by
    rw [Int.toNat_natCast]; omega
  rw [e, cells_eq]
  simp only [mayB, decide_eq_true_eq]; omega
theorem shTo_bd (ws cs : List Int) (hw : ∀ z ∈ ws, 0 ≤ z ∧ z ≤ 2) (i k : Nat) (h : i ≤ k) : -4194304 ≤ shTo ws cs i k ∨ 2097152 < k := by
  have := solidTo_le cs k
  have h1 := sumTo_bd ws hw i
  have h2 := sumTo_bd ws hw (max i (solidTo cs k))
  rw [shTo]; omega

set_option maxRecDepth 100000 in
set_option maxHeartbeats 4000000 in
theorem cells_law (A : Option Addr) (n c : Nat) (zs : List Int) (A' : Option Addr) (n' c' : Nat) (zs' : List Int) (x y : Int) (w : World)
    (hr : Rd w 1 A n (ints .u8 zs)) (hz : ∀ z ∈ zs, 0 ≤ z ∧ z ≤ 255) (hr' : Rd w 1 A' n' (ints .u8 zs')) (hz' : ∀ z ∈ zs', 0 ≤ z ∧ z ≤ 255)
    (_hx : -9223372036854775808 ≤ x ∧ x ≤ 9223372036854775807) (_hy : -9223372036854775808 ≤ y ∧ y ≤ 9223372036854775807) (hn : n + n' ≤ 1048576) :
    Calls Try.prog 3 #[.slice A n c, .slice A' n' c', .int .i64 x, .int .i64 y] w fun e w' => e = .returned (.bool true) ∧ Below w.heap.size w w' := by
  go_enter Try.func3, Try.ntmps3
  go_wp2_with fail
  refine (awake22_any _).mono ?_
  rintro e w1 ⟨rfl, hb1⟩
  go_wp2_with fail
  refine (widths_any _ _ _ zs _ (hr.same hb1) (by omega) hz).mono ?_
  rintro e w2 ⟨v2, rfl, hown2, hb2⟩
  have hB2 := hb1.trans (hb2.mono hb1.size)
  go_wp2_with fail
  refine (classes43_any _ _ _ zs' _ (hr'.same hB2) (by omega) hz').mono ?_
  rintro e w3 ⟨v3, rfl, hown3, hb3⟩
  have hB3 := hB2.trans (hb3.mono hB2.size)
  obtain ⟨A2, c2, rfl, _, hl2⟩ := own_slice hown2
  obtain ⟨A3, c3, rfl, _, hl3⟩ := own_slice hown3
  replace hl2 := hl2.same hb3
  have HW := Lib.hid (widths_bd zs)
  clear hown2 hown3 hb1 hb2 hb3 hB2 hr hr' hz hz'
  generalize widths zs = ws at *
  generalize classes43 zs' = cs at *
  have HL2 := Lib.hid (show ws.length = n by simpa [ints] using hl2.1)
  have HL3 := Lib.hid (show cs.length = n' by simpa [ints] using hl3.1)
  obtain ⟨m, hm⟩ : ∃ m, min n n' = m := ⟨_, rfl⟩
  have hmn : m ≤ n := by omega
  have hmn1 : m ≤ n' := by omega
  have hm' : m = n ∨ m = n' := by omega
  have HM := Lib.hid hm
  clear hm
  go_upto_region 4 with (fail)
  go_cut [11] (fun s wx => s = .int .i64 (m : Int) ∧ wx = w3)
  case first =>
    go_wp2
    all_goals (go_meet; exact ⟨by first | rfl | (congr 1; omega), rfl⟩)
  case rest =>
    obtain ⟨rfl, rfl⟩ := hcut
    go_wp2_with fail
    refine (of_any _ _ _ _ _ _ ws cs _ hl2 hl3 (by omega) HW.out).mono ?_
    rintro e w4 ⟨v4, rfl, h4, hb4⟩
    rw [HM.out] at h4
    have hB4 := hB3.trans (hb4.mono hB3.size)
    replace hl2 := hl2.same hb4
    replace hl3 := hl3.same hb4
    clear hb4 hB3
    obtain ⟨b, hv⟩ : ∃ b, v4 = .pointer (some ⟨b, 0, none⟩) := by
      obtain ⟨b, _, _, _, rfl, _⟩ := h4.ex
      exact ⟨b, rfl⟩
    subst hv
    have H4 := Lib.hid h4
    clear h4
    obtain ⟨W, hW⟩ : ∃ W : World, W = w4 := ⟨_, rfl⟩
    subst hW
    go_upto_region 9 with (go_at_call 14; (with_reducible refine (count_any _ _ _ _ _ H4.out).mono ?_); rintro e w' ⟨rfl, rfl⟩)
    go_cut [46] (fun s wx => s = .bool (mayB m x y) ∧ wx = W)
    case first =>
      go_wp2
      all_goals (go_meet; refine ⟨?_, rfl⟩; unfold mayB; congr 1; rw [Bool.eq_iff_iff]; simp; try omega)
    case rest =>
      obtain ⟨rfl, rfl⟩ := hcut
      go_upto_if 46 with (fail)
      obtain ⟨W, hW⟩ : ∃ W : World, W = wc := ⟨_, rfl⟩
      subst hW
      go_cut [13, 14] (fun s t wx => s = .int .i64 (cellsOf ws m x y) ∧ t = .int .i64 (shownOf ws cs m x y) ∧ wx = W)
      case first =>
        by_cases hm : mayB m x y = true
        · have hm2 := hm
          simp only [mayB, decide_eq_true_eq] at hm2
          obtain ⟨i, rfl⟩ : ∃ i : Nat, x = i := ⟨x.toNat, by omega⟩
          obtain ⟨j, rfl⟩ : ∃ j : Nat, y = j := ⟨y.toNat, by omega⟩
          have HC := Lib.hid (cells_eq ws m i j hm)
          have HS := Lib.hid (shown_eq ws cs m i j hm)
          rw [hm]
          clear hm
          go_wp2
          go_loop [13, 14, 15] (fun s t k' => ∃ k : Nat, i ≤ k ∧ k ≤ j ∧ k' = .int .i64 k ∧ s = .int .i64 (sumTo ws k - sumTo ws i) ∧ t = .int .i64 (shTo ws cs i k)) (fun _ _ k' => j - (intOf k').toNat)
          case atStart => exact ⟨i, Nat.le_refl _, by omega, rfl, by simp, by rw [shTo_start]⟩
          case round =>
            obtain ⟨k, hik, hkj, rfl, rfl, rfl⟩ := hrel
            by_cases hlt : k < j
            · have hk2 : k < ws.length := by rw [HL2.out]; omega
              have hk3 : k < cs.length := by rw [HL3.out]; omega
              obtain ⟨ad2, rfl, e2⟩ := hl2.cell_ (ints_at (K := .i64) hk2)
              obtain ⟨ad3, rfl, e3⟩ := hl3.cell_ (ints_at (K := .u8) hk3)
              have s1 := sumTo_bd ws HW.out k
              have s2 := sumTo_bd ws HW.out i
              have HS1 := Lib.hid (sumTo_succ ws k hk2)
              have HS2 := Lib.hid (shTo_succ ws cs i k hik hk3)
              have hz := HW.out _ (List.getElem_mem hk2)
              clear hl2 hl3
              generalize ws[k] = u at *
              generalize cs[k] = v at *
              generalize sumTo ws k = p at *
              generalize sumTo ws i = q at *
              rcases (by cases h9 : (v == 9) <;> simp : (v == 9) = true ∨ (v == 9) = false) with h9 | h9
              · have e9 : v = 9 := by simpa using h9
                have HT := Lib.hid (HS2.out.trans (if_pos e9))
                subst e9
                go_wp2
                go_round
                case rel => exact ⟨k + 1, by omega, by omega, by go_num, by rw [HS1.out]; congr 1; omega, by rw [HT.out]⟩
                case measure => simp [intOf]; omega
              · have e9 : ¬ v = 9 := by simpa using h9
                have HT := Lib.hid (HS2.out.trans (if_neg e9))
                clear e9
                go_wp2
                go_round
                case rel => exact ⟨k + 1, by omega, by omega, by go_num, by rw [HS1.out]; congr 1; omega, by rw [HT.out, HS1.out]; congr 1; omega⟩
                case measure => simp [intOf]; omega
            · obtain rfl : j = k := by omega
              go_wp2
              go_meet
              exact ⟨by rw [HC.out], by rw [HS.out], rfl⟩
        · have hm2 : mayB m x y = false := by simpa using hm
          have HC : Hid (cellsOf ws m x y = 0) := if_neg hm
          have HS : Hid (shownOf ws cs m x y = 0) := if_neg hm
          rw [hm2]
          clear hm hm2
          go_wp2
          go_meet
          exact ⟨by rw [HC.out], by rw [HS.out], rfl⟩
      case rest =>
        obtain ⟨rfl, rfl, rfl⟩ := hcut
        obtain ⟨W, hW⟩ : ∃ W : World, W = wc := ⟨_, rfl⟩
        subst hW
        have H4 := Lib.hid (H4.out)
        go_upto_region 16 with (fail)
        go_cut [16] (fun s wx => s = .bool (wholeOf ws m y) ∧ wx = W)
        case first =>
          by_cases hy : 0 ≤ y ∧ y < m
          · obtain ⟨j, rfl⟩ : ∃ j : Nat, y = j := ⟨y.toNat, by omega⟩
            have hj : j < m := by omega
            have hk2 : j < ws.length := by rw [HL2.out]; omega
            obtain ⟨ad2, rfl, e2⟩ := hl2.cell_ (ints_at (K := .i64) hk2)
            have HE : Hid (wholeOf ws m j = !(ws[j] == 0)) := by
              show _ = _
              have hg : ws.getD j 0 = ws[j] := by rw [List.getD_eq_getElem?_getD, List.getElem?_eq_getElem hk2]; rfl
              rw [wholeOf, Int.toNat_natCast, hg]; simp [hj]; omega
            have n1 : (j == m) = false := by simp; omega
            have n2 : ((j : Int) == (m : Int)) = false := by simp; omega
            clear hl2 hl3 hy
            generalize ws[j] = u at *
            rcases (by cases h9 : (u == 0) <;> simp : (u == 0) = true ∨ (u == 0) = false) with h9 | h9
            all_goals
              have h9' : (u != 0) = !(u == 0) := rfl
              rw [h9] at h9'
              go_wp2
              all_goals go_meet
              all_goals exact ⟨by rw [HE.out]; first | rfl | simp [h9], rfl⟩
          · have HE : Hid (wholeOf ws m y = decide (y = m)) := by
              show _ = _
              rw [wholeOf]; simp [hy]
            clear hl2 hl3
            by_cases hym : y = (m : Int)
            · subst hym
              clear hy
              go_wp2
              all_goals go_meet
              all_goals exact ⟨by rw [HE.out]; simp, rfl⟩
            · have hne : (y == (m : Int)) = false := by simpa using hym
              have hy' : y < 0 ∨ (m : Int) ≤ y := by omega
              have HE2 := Lib.hid (HE.out.trans (show decide (y = (m : Int)) = false by simpa using hym))
              clear hy HE hym
              rcases hy' with hy' | hy'
              · go_wp2
                all_goals go_meet
                all_goals exact ⟨by rw [HE2.out], rfl⟩
              · have hd : decide (y < (m : Int)) = false := by simpa using hy'
                have hd0 : (0 : Int) ≤ y := by omega
                go_wp2
                all_goals go_meet
                all_goals exact ⟨by rw [HE2.out], rfl⟩
        case rest =>
          obtain ⟨rfl, rfl⟩ := hcut
          have C2 := Lib.hid fun W (h : Rul W (.pointer (some ⟨b, 0, none⟩)) m ws cs) => cells_is W _ _ _ _ h x y _ (by omega) HW.out rfl
          have C3 := Lib.hid fun W (h : Rul W (.pointer (some ⟨b, 0, none⟩)) m ws cs) => shown_is W _ _ _ _ h x y _ (by omega) HW.out rfl
          have C4 := Lib.hid fun W (h : Rul W (.pointer (some ⟨b, 0, none⟩)) m ws cs) => whole_is W _ _ _ _ h y _ (by omega) rfl
          go_wp2_with (first
            | (go_at_call 15; (with_reducible refine (C2.out _ H4.out).mono ?_); rintro e w5 ⟨rfl, h5, hb5⟩; replace hB5 := hB4.trans (hb5.mono hB4.size); have H5 := Lib.hid h5; clear h5)
            | (go_at_call 16; (with_reducible refine (C3.out _ H5.out).mono ?_); rintro e w6 ⟨rfl, h6, hb6⟩; replace hB6 := hB5.trans (hb6.mono hB5.size); have H6 := Lib.hid h6; clear h6)
            | (go_at_call 17; (with_reducible refine (C4.out _ H6.out).mono ?_); rintro e w7 ⟨rfl, h7, hb7⟩; replace hB7 := hB6.trans (hb7.mono hB6.size); have H7 := Lib.hid h7; clear h7))
          all_goals go_ret
          all_goals exact ⟨ret_bool (by first | rfl | simp), hB7⟩
end Go.Proofs.Ytmonkeencbhcmaa.me
