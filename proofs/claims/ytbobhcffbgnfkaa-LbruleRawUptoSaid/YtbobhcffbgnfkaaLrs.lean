/-
  Layer 20: the contracts of spaced, ahead and step over the program.
-/
import Derived.Test.YtbobhcffbgnfkaaLra
import Derived.BigRegion
namespace Go.Proofs.Ytbobhcffbgnfkaa.lr
open Go.RowKit

set_option maxRecDepth 100000 in
set_option maxHeartbeats 8000000 in
theorem spaced_any (s : S) (g : Nat) (c after : Int) (w : World) (hs : Blk w g 45 s.cells) (hf : s.flags ≤ 4194304) :
    Calls Try.prog 22 #[.pointer (some ⟨g, 0, none⟩), .int .u8 c, .int .u8 after] w fun e w' => e = .returned (.int .i64 (spacedI s c after)) ∧ w = w' := by
  have HNU := Lib.hid (numeric_any s g c after w hs)
  have HAL := Lib.hid (alike_any s g c w hs hf)
  obtain ⟨a, j, b, h, f, n⟩ := s
  have c0 := hs.cell 0
  have c2 := hs.cell 2
  have c3 := hs.cell 3
  simp only [S.cells, List.getElem?_toArray, List.getElem?_cons_zero, List.getElem?_cons_succ] at c0 c2 c3
  clear hs
  by_cases hC : c = 19 ∨ c = 20 ∨ c = 23 ∨ c = 25 ∨ c = 26
  · have HV : Hid (spacedI ⟨a, j, b, h, f, n⟩ c after = 0) := if_pos hC
    rcases hC with rfl | rfl | rfl | rfl | rfl
    all_goals
      go_enter Try.func22, Try.ntmps22
      go_wp2
      go_ret
      exact ⟨ret_int HV.out.symm, rfl⟩
  · have HV1 : Hid (spacedI ⟨a, j, b, h, f, n⟩ c after = if overB b c then 0 else if a = 9 then 1 else if c = 22 ∨ a = 22 then 0 else if c = 13 ∨ a = 13 then 1 else if c = 14 ∨ c = 17 ∨ c = 18 ∨ a = 15 ∨ c = 24 then 0 else if hebB a h c then 0 else if numericB a n c after || alikeB a f c then 0 else 1) := if_neg hC
    have kc0 : (c == 19) = false := by simp only [beq_eq_false_iff_ne, ne_eq]; intro hh; exact hC (by simp [hh])
    have kc1 : (c == 20) = false := by simp only [beq_eq_false_iff_ne, ne_eq]; intro hh; exact hC (by simp [hh])
    have kc2 : (c == 23) = false := by simp only [beq_eq_false_iff_ne, ne_eq]; intro hh; exact hC (by simp [hh])
    have kc3 : (c == 25) = false := by simp only [beq_eq_false_iff_ne, ne_eq]; intro hh; exact hC (by simp [hh])
    have kc4 : (c == 26) = false := by simp only [beq_eq_false_iff_ne, ne_eq]; intro hh; exact hC (by simp [hh])
    clear hC
    go_enter Try.func22, Try.ntmps22
    go_upto_region 8 with (fail)
    go_cut [14] (fun s wx => s = .bool (b == 21) ∧ wx = w)
    case first =>
      go_wp2_with (go_at_call 25; (with_reducible refine (clos_any _ _).mono ?_); rintro e w' ⟨rfl, rfl⟩)
      all_goals clear HNU HAL HV1
      all_goals (try subst_vars)
      all_goals go_meet
      all_goals exact ⟨by first | rfl | (simp_all; done) | (congr 1; rw [Bool.eq_iff_iff]; simp_all; done) | (congr 1; rw [Bool.eq_iff_iff]; simp_all; omega), rfl⟩
    case rest =>
      obtain ⟨rfl, hwc⟩ := hcut
      subst hwc
      go_upto_if 14 with (fail)
      go_cut [14] (fun s wx => s = .bool (b == 21 || (b == 22 && c == 21 || (closB b && c == 18 || b == 16 && c == 16))) ∧ wx = wc)
      case first =>
        cases hq : (b == 21)
        all_goals go_wp2_with (go_at_call 25; (with_reducible refine (clos_any _ _).mono ?_); rintro e w' ⟨rfl, rfl⟩)
        all_goals clear HNU HAL HV1
        all_goals (try subst_vars)
        all_goals go_meet
        all_goals exact ⟨by first | rfl | (simp_all; done) | (congr 1; rw [Bool.eq_iff_iff]; simp_all; done) | (congr 1; rw [Bool.eq_iff_iff]; simp_all; omega), rfl⟩
      case rest =>
        obtain ⟨rfl, hwc⟩ := hcut
        subst hwc
        cases hO : (b == 21 || (b == 22 && c == 21 || (closB b && c == 18 || b == 16 && c == 16)))
        rotate_left
        · have HV : Hid (spacedI ⟨a, j, b, h, f, n⟩ c after = 0) := HV1.out.trans (if_pos hO)
          go_wp2
          go_ret
          exact ⟨ret_int HV.out.symm, rfl⟩
        have HV2 := Lib.hid (HV1.out.trans (if_neg (by rw [show overB b c = false from hO]; simp)))
        clear hO HV1
        by_cases hA : a = 9
        · have HV : Hid (spacedI ⟨a, j, b, h, f, n⟩ c after = 1) := HV2.out.trans (if_pos hA)
          subst hA
          go_wp2
          go_ret
          exact ⟨ret_int HV.out.symm, rfl⟩
        have HV3 := Lib.hid (HV2.out.trans (if_neg hA))
        have ka9 : (a == 9) = false := by simpa using hA
        clear hA HV2
        by_cases hQ : c = 22 ∨ a = 22
        · have HV : Hid (spacedI ⟨a, j, b, h, f, n⟩ c after = 0) := HV3.out.trans (if_pos hQ)
          clear HV3
          rcases hQ with rfl | rfl
          all_goals
            go_wp2
            all_goals go_ret
            all_goals exact ⟨ret_int HV.out.symm, rfl⟩
        have HV4 := Lib.hid (HV3.out.trans (if_neg hQ))
        have khQ0 : (c == 22) = false := by simp only [beq_eq_false_iff_ne, ne_eq]; intro hh; exact hQ (by simp [hh])
        have khQ1 : (a == 22) = false := by simp only [beq_eq_false_iff_ne, ne_eq]; intro hh; exact hQ (by simp [hh])
        clear hQ HV3
        by_cases hB : c = 13 ∨ a = 13
        · have HV : Hid (spacedI ⟨a, j, b, h, f, n⟩ c after = 1) := HV4.out.trans (if_pos hB)
          clear HV4
          rcases hB with rfl | rfl
          all_goals
            go_wp2
            all_goals go_ret
            all_goals exact ⟨ret_int HV.out.symm, rfl⟩
        have HV5 := Lib.hid (HV4.out.trans (if_neg hB))
        have khB0 : (c == 13) = false := by simp only [beq_eq_false_iff_ne, ne_eq]; intro hh; exact hB (by simp [hh])
        have khB1 : (a == 13) = false := by simp only [beq_eq_false_iff_ne, ne_eq]; intro hh; exact hB (by simp [hh])
        clear hB HV4
        by_cases hD : c = 14 ∨ c = 17 ∨ c = 18 ∨ a = 15 ∨ c = 24
        · have HV : Hid (spacedI ⟨a, j, b, h, f, n⟩ c after = 0) := HV5.out.trans (if_pos hD)
          clear HV5
          rcases hD with rfl | rfl | rfl | rfl | rfl
          all_goals
            go_wp2
            all_goals go_ret
            all_goals exact ⟨ret_int HV.out.symm, rfl⟩
        have HV1 := Lib.hid (HV5.out.trans (if_neg hD))
        have khD0 : (c == 14) = false := by simp only [beq_eq_false_iff_ne, ne_eq]; intro hh; exact hD (by simp [hh])
        have khD1 : (c == 17) = false := by simp only [beq_eq_false_iff_ne, ne_eq]; intro hh; exact hD (by simp [hh])
        have khD2 : (c == 18) = false := by simp only [beq_eq_false_iff_ne, ne_eq]; intro hh; exact hD (by simp [hh])
        have khD3 : (a == 15) = false := by simp only [beq_eq_false_iff_ne, ne_eq]; intro hh; exact hD (by simp [hh])
        have khD4 : (c == 24) = false := by simp only [beq_eq_false_iff_ne, ne_eq]; intro hh; exact hD (by simp [hh])
        clear hD HV5
        go_upto_region 27 with (fail)
        go_cut [83] (fun s wx => s = .bool (h && (a == 17 || a == 14)) ∧ wx = wc)
        case first =>
          go_wp2_with (go_at_call 25; (with_reducible refine (clos_any _ _).mono ?_); rintro e w' ⟨rfl, rfl⟩)
          all_goals clear HNU HAL HV1
          all_goals (try subst_vars)
          all_goals go_meet
          all_goals exact ⟨by first | rfl | (simp_all; done) | (congr 1; rw [Bool.eq_iff_iff]; simp_all; done) | (congr 1; rw [Bool.eq_iff_iff]; simp_all; omega), rfl⟩
        case rest =>
          obtain ⟨rfl, hwc⟩ := hcut
          subst hwc
          go_upto_if 83 with (fail)
          go_cut [83] (fun s wx => s = .bool (h && (a == 17 || a == 14) || (a == 26 && c == 2)) ∧ wx = wc)
          case first =>
            cases hq : (h && (a == 17 || a == 14))
            all_goals go_wp2_with (go_at_call 25; (with_reducible refine (clos_any _ _).mono ?_); rintro e w' ⟨rfl, rfl⟩)
            all_goals clear HNU HAL HV1
            all_goals (try subst_vars)
            all_goals go_meet
            all_goals exact ⟨by first | rfl | (simp_all; done) | (congr 1; rw [Bool.eq_iff_iff]; simp_all; done) | (congr 1; rw [Bool.eq_iff_iff]; simp_all; omega), rfl⟩
          case rest =>
            obtain ⟨rfl, hwc⟩ := hcut
            subst hwc
            cases hH : (h && (a == 17 || a == 14) || (a == 26 && c == 2))
            rotate_left
            · have HV : Hid (spacedI ⟨a, j, b, h, f, n⟩ c after = 0) := HV1.out.trans (if_pos hH)
              go_wp2
              go_ret
              exact ⟨ret_int HV.out.symm, rfl⟩
            have HV7 := Lib.hid (HV1.out.trans (if_neg (by rw [show hebB a h c = false from hH]; simp)))
            clear hH HV1
            simp only at HNU HAL
            generalize numericB a n c after = B1 at *
            generalize alikeB a f c = B2 at *
            cases B1 <;> cases B2
            all_goals go_wp2_with (first | (go_at_call 26; (with_reducible refine HNU.out.mono ?_); rintro e w' ⟨rfl, rfl⟩) | (go_at_call 27; (with_reducible refine HAL.out.mono ?_); rintro e w' ⟨rfl, rfl⟩))
            all_goals go_ret
            all_goals exact ⟨ret_int HV7.out.symm, rfl⟩

set_option maxRecDepth 100000 in
set_option maxHeartbeats 8000000 in
theorem aheads_any (s : S) (g : Nat) (c after : Int) (w : World) (hs : Blk w g 45 s.cells) (hf : s.flags ≤ 4194304) :
    Calls Try.prog 16 #[.pointer (some ⟨g, 0, none⟩), .int .u8 c, .int .u8 after] w fun e w' => e = .returned (.int .i64 (aheadI s c after)) ∧ w = w' := by
  have HSP := Lib.hid (spaced_any s g c after w hs hf)
  have HV0 : Hid (aheadI s c after = if s.last = 6 ∧ c = 7 then 0 else if s.last = 6 ∨ s.last = 5 ∨ s.last = 7 ∨ s.last = 8 then 2 else if c = 5 ∨ c = 6 ∨ c = 7 ∨ c = 8 ∨ c = 9 ∨ c = 10 then 0
    else if s.base = 10 then 1 else if s.joined = true ∨ c = 11 ∨ s.last = 11 ∨ s.last = 12 then 0 else if c = 12 ∧ ¬ s.last = 9 ∧ ¬ s.last = 14 ∧ ¬ s.last = 17 then 0 else spacedI s c after) := rfl
  have c0 := hs.cell 0
  have c1 := hs.cell 1
  have c2 := hs.cell 2
  simp only [S.cells, List.getElem?_toArray, List.getElem?_cons_zero, List.getElem?_cons_succ] at c0 c1 c2
  clear hs
  generalize spacedI s c after = sv at *
  generalize aheadI s c after = av at *
  generalize s.last = a at *
  generalize s.joined = j at *
  generalize s.base = b at *
  by_cases h0 : a = 6 ∧ c = 7
  · have HV := Lib.hid (HV0.out.trans (if_pos h0))
    clear HV0
    obtain ⟨rfl, rfl⟩ := h0
    go_enter Try.func16, Try.ntmps16
    go_wp2
    go_ret
    exact ⟨ret_int HV.out.symm, rfl⟩
  have HV1 := Lib.hid (HV0.out.trans (if_neg h0))
  clear HV0
  by_cases h1 : a = 6 ∨ a = 5 ∨ a = 7 ∨ a = 8
  · have HV := Lib.hid (HV1.out.trans (if_pos h1))
    clear HV1
    rcases h1 with rfl | rfl | rfl | rfl
    · have k7 : (c == 7) = false := by simpa using h0
      clear h0
      go_enter Try.func16, Try.ntmps16
      go_wp2
      go_ret
      exact ⟨ret_int HV.out.symm, rfl⟩
    all_goals
      clear h0
      go_enter Try.func16, Try.ntmps16
      go_wp2
      go_ret
      exact ⟨ret_int HV.out.symm, rfl⟩
  have HV2 := Lib.hid (HV1.out.trans (if_neg h1))
  clear HV1 h0
  have ka0 : (a == 6) = false := by simp only [beq_eq_false_iff_ne, ne_eq]; intro hh; exact h1 (by simp [hh])
  have ka1 : (a == 5) = false := by simp only [beq_eq_false_iff_ne, ne_eq]; intro hh; exact h1 (by simp [hh])
  have ka2 : (a == 7) = false := by simp only [beq_eq_false_iff_ne, ne_eq]; intro hh; exact h1 (by simp [hh])
  have ka3 : (a == 8) = false := by simp only [beq_eq_false_iff_ne, ne_eq]; intro hh; exact h1 (by simp [hh])
  clear h1
  by_cases h2 : c = 5 ∨ c = 6 ∨ c = 7 ∨ c = 8 ∨ c = 9 ∨ c = 10
  · have HV := Lib.hid (HV2.out.trans (if_pos h2))
    clear HV2
    rcases h2 with rfl | rfl | rfl | rfl | rfl | rfl
    all_goals
      go_enter Try.func16, Try.ntmps16
      go_wp2
      all_goals go_ret
      all_goals exact ⟨ret_int HV.out.symm, rfl⟩
  have HV3 := Lib.hid (HV2.out.trans (if_neg h2))
  have kh20 : (c == 5) = false := by simp only [beq_eq_false_iff_ne, ne_eq]; intro hh; exact h2 (by simp [hh])
  have kh21 : (c == 6) = false := by simp only [beq_eq_false_iff_ne, ne_eq]; intro hh; exact h2 (by simp [hh])
  have kh22 : (c == 7) = false := by simp only [beq_eq_false_iff_ne, ne_eq]; intro hh; exact h2 (by simp [hh])
  have kh23 : (c == 8) = false := by simp only [beq_eq_false_iff_ne, ne_eq]; intro hh; exact h2 (by simp [hh])
  have kh24 : (c == 9) = false := by simp only [beq_eq_false_iff_ne, ne_eq]; intro hh; exact h2 (by simp [hh])
  have kh25 : (c == 10) = false := by simp only [beq_eq_false_iff_ne, ne_eq]; intro hh; exact h2 (by simp [hh])
  clear h2 HV2
  by_cases h3 : b = 10
  · have HV := Lib.hid (HV3.out.trans (if_pos h3))
    clear HV3
    rcases h3 with rfl
    all_goals
      go_enter Try.func16, Try.ntmps16
      go_wp2
      all_goals go_ret
      all_goals exact ⟨ret_int HV.out.symm, rfl⟩
  have HV4 := Lib.hid (HV3.out.trans (if_neg h3))
  have kb : (b == 10) = false := by simpa using h3
  clear h3 HV3
  by_cases h4 : j = true ∨ c = 11 ∨ a = 11 ∨ a = 12
  · have HV := Lib.hid (HV4.out.trans (if_pos h4))
    clear HV4
    cases j
    · simp only [Bool.false_eq_true, false_or] at h4
      rcases h4 with rfl | rfl | rfl
      all_goals
        go_enter Try.func16, Try.ntmps16
        go_wp2
        all_goals go_ret
        all_goals exact ⟨ret_int HV.out.symm, rfl⟩
    · clear h4
      go_enter Try.func16, Try.ntmps16
      go_wp2
      go_ret
      exact ⟨ret_int HV.out.symm, rfl⟩
  have HV5 := Lib.hid (HV4.out.trans (if_neg h4))
  have kh40 : (c == 11) = false := by simp only [beq_eq_false_iff_ne, ne_eq]; intro hh; exact h4 (by simp [hh])
  have kh41 : (a == 11) = false := by simp only [beq_eq_false_iff_ne, ne_eq]; intro hh; exact h4 (by simp [hh])
  have kh42 : (a == 12) = false := by simp only [beq_eq_false_iff_ne, ne_eq]; intro hh; exact h4 (by simp [hh])
  have kj : j = false := by cases j <;> simp at h4 ⊢
  clear h4 HV4
  subst kj
  by_cases h5 : c = 12 ∧ ¬ a = 9 ∧ ¬ a = 14 ∧ ¬ a = 17
  · have HV := Lib.hid (HV5.out.trans (if_pos h5))
    clear HV5
    obtain ⟨rfl, n9, n14, n17⟩ := h5
    have q9 : (a != 9) = true := by simpa using n9
    have q14 : (a != 14) = true := by simpa using n14
    have q17 : (a != 17) = true := by simpa using n17
    clear n9 n14 n17
    go_enter Try.func16, Try.ntmps16
    go_wp2
    go_ret
    exact ⟨ret_int HV.out.symm, rfl⟩
  have HV6 := Lib.hid (HV5.out.trans (if_neg h5))
  clear HV5
  have hcases : (c == 12) = false ∨ (c = 12 ∧ a = 9) ∨ (c = 12 ∧ a = 14) ∨ (c = 12 ∧ a = 17) := by
    by_cases hc : c = 12
    · right; omega
    · left; simpa using hc
  clear h5
  rcases hcases with hc | ⟨rfl, rfl⟩ | ⟨rfl, rfl⟩ | ⟨rfl, rfl⟩
  all_goals
    go_enter Try.func16, Try.ntmps16
    go_wp2_with (go_at_call 22; (with_reducible refine HSP.out.mono ?_); rintro e w' ⟨rfl, rfl⟩)
    go_ret
    exact ⟨ret_int HV6.out.symm, rfl⟩

end Go.Proofs.Ytbobhcffbgnfkaa.lr
