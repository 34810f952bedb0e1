/-
  Layer 24: the walk of the statement RelevelOf.
-/
import Derived.Test.YtgkmpndebcdigaaRlb
import Derived.WalkLawsBesides
import Derived.StillTailTactics
import Derived.Deep.DeepCutAuto
import Derived.Outline
namespace Go.Proofs.Ytgkmpndebcdigaa
open Go.RowKit

theorem rows_below {w w1 w2 w3 : World} (h1 : Below w.heap.size w w1) (h2 : Below w1.heap.size w1 w2) (h3 : Below w2.heap.size w2 w3) : Below w.heap.size w w3 :=
  (h1.trans (h2.mono h1.size)).trans (h3.mono (Nat.le_trans h1.size h2.size))

set_option maxRecDepth 100000 in
set_option maxHeartbeats 4000000 in
theorem rof_law (A : Option Addr) (n c : Nat) (zs : List Int) (A' : Option Addr) (n' c' : Nat) (zs' : List Int) (A'' : Option Addr) (n'' c'' : Nat) (zs'' : List Int) (w : World)
    (hr : Rd w 1 A n (ints .u8 zs)) (hz : ∀ z ∈ zs, 0 ≤ z ∧ z ≤ 255) (hr' : Rd w 1 A' n' (ints .u8 zs')) (hz' : ∀ z ∈ zs', 0 ≤ z ∧ z ≤ 255)
    (hr'' : Rd w 1 A'' n'' (ints .u8 zs'')) (hz'' : ∀ z ∈ zs'', 0 ≤ z ∧ z ≤ 255) (hn : n + n' + n'' ≤ 1048576) :
    Calls Try.prog 7 #[.slice A n c, .slice A' n' c', .slice A'' n'' c''] w fun e w' => e = .returned (.bool true) ∧ Below w.heap.size w w' := by
  go_enter Try.func7, Try.ntmps7
  go_wp2_with fail
  refine (awake24_any _).mono ?_
  rintro e w1 ⟨rfl, hb1⟩
  go_wp2_with fail
  refine (levels_any _ _ _ zs _ (hr.same hb1) (by omega) hz).mono ?_
  rintro e w2 ⟨v2, rfl, hown2, hb2⟩
  have hB2 := hb1.trans (hb2.mono hb1.size)
  go_wp2_with fail
  refine (classes_any _ _ _ zs' _ (hr'.same hB2) (by omega) hz').mono ?_
  rintro e w3 ⟨v3, rfl, hown3, hb3⟩
  have hB3 := hB2.trans (hb3.mono hB2.size)
  go_wp2_with fail
  refine (bases_any _ _ _ zs'' _ (hr''.same hB3) (by omega) hz'').mono ?_
  rintro e w4 ⟨v4, rfl, hown4, hb4⟩
  have hB4 := hB3.trans (hb4.mono hB3.size)
  obtain ⟨A2, c2, rfl, hc2, hl2⟩ := own_slice hown2
  obtain ⟨A3, c3, rfl, hc3, hl3⟩ := own_slice hown3
  obtain ⟨A4, c4, rfl, hc4, hl4⟩ := own_slice hown4
  replace hl2 := (hl2.same hb3).same hb4
  replace hl3 := hl3.same hb4
  have HL2 := Lib.hid (show (levels zs).length = n by simpa [ints] using hl2.1)
  have HL3 := Lib.hid (show (classes zs').length = n' by simpa [ints] using hl3.1)
  have HL4 := Lib.hid (show (basesOf zs'').length = n'' by simpa [ints] using hl4.1)
  have hr4 := hr.same hB4
  clear hown2 hown3 hown4 hb1 hb2 hb3 hb4 hB2 hB3 hr hr' hr''
  generalize classes zs' = cs at *
  generalize basesOf zs'' = bs at *
  obtain ⟨ls, hls⟩ : ∃ ls, ls = levels zs := ⟨_, rfl⟩
  rw [← hls] at hl2 HL2
  have HLS := Lib.hid hls
  clear hls
  go_wp2_with fail
  refine (rel_any _ _ _ _ _ _ _ _ _ ls cs bs _ hl2 hl3 hl4 (by omega) (by omega) (by omega)).mono ?_
  rintro e w5 ⟨v5, rfl, hown5, hb5⟩
  obtain ⟨A5, c5, rfl, _, hl5⟩ := own_slice hown5
  replace hl2 := hl2.same hb5
  replace hl3 := hl3.same hb5
  replace hl4 := hl4.same hb5
  have hr5 := hr4.same hb5
  have hB5 := hB4.trans (hb5.mono hB4.size)
  clear hown5 hb5 hB4 hr4
  go_upto_region 7 with (fail)
  go_cut [11] (fun s wx => ∃ m : Nat, s = .int .i64 m ∧ m ≤ n ∧ m ≤ n' ∧ m ≤ n'' ∧ (n ≤ m ∨ n' ≤ m ∨ n'' ≤ m) ∧ wx = w5)
  case first =>
    go_wp2
    all_goals (go_meet; exact ⟨_, rfl, by omega, by omega, by omega, by omega, rfl⟩)
  case rest =>
    obtain ⟨m, rfl, hm0, hm1, hm2, hm3, rfl⟩ := hcut
    go_upto_region 8 with (fail)
    go_cut [56] (fun s wx => ∃ b : Bool, s = .bool b ∧ (b = true → ¬ (n' = n ∧ n'' = n)) ∧ wx = wc)
    case first =>
      go_wp2
      all_goals (go_meet; exact ⟨_, rfl, fun h => by first | (simp at h; done) | (simp at h; omega) | omega, rfl⟩)
    case rest =>
      obtain ⟨bb, rfl, hbb, rfl⟩ := hcut
      go_upto_if 56 with (fail)
      go_cut [12] (fun _ wx => Below wc.heap.size wc wx)
      case first =>
        cases bb
        · go_wp2
          go_meet
          exact Below.refl _ _
        · have HRE : Hid (relOf ls cs bs = ls) := by
            show _ = _
            rw [relOf, if_neg]
            rw [HL2.out, HL3.out, HL4.out]
            exact hbb rfl
          go_wp2
          rw [HRE.out] at hl5
          go_loopw [59] (fun i wr => ∃ j : Nat, j ≤ n ∧ i = .int .i64 j ∧ Below wc.heap.size wc wr)
            (fun i _ => n - (intOf i).toNat)
          case atStart => exact ⟨0, Nat.zero_le _, rfl, Below.refl _ _⟩
          case round =>
            obtain ⟨j, hj, rfl, hb⟩ := hrel
            by_cases hlt : j < n
            · obtain ⟨ad5, rfl, hc5⟩ := (hl5.same hb).2 (by omega)
              obtain ⟨ad2, rfl, hc2'⟩ := (hl2.same hb).2 (by omega)
              have hjl : j < ls.length := by rw [HL2.out]; exact hlt
              have e5 := hc5 j _ (ints_at hjl)
              have e2 := hc2' j _ (ints_at hjl)
              clear hc5 hc2'
              generalize ls[j] = x at *
              go_wp2
              go_quiet (fail)
              go_wp2
              go_roundw
              case rel => exact ⟨j + 1, by omega, by go_num, by first | exact hb | exact hb.drew | exact drawn hb _⟩
              case measure => simp [intOf]; omega
            · go_wp2
              go_meet
              exact hb
      case rest =>
        replace hl2 := hl2.same hcut
        replace hl3 := hl3.same hcut
        replace hl4 := hl4.same hcut
        have hr6 := hr5.same hcut
        have hB6 := hB5.trans (hcut.mono hB5.size)
        clear hr5 hl5 hB5 hbb
        clear hcut
        go_wp2
        have hk2 : m ≤ c2 := Nat.le_trans hm0 hc2
        have hk3 : m ≤ c3 := Nat.le_trans hm1 hc3
        have hk4 : m ≤ c4 := Nat.le_trans hm2 hc4
        go_still_tail 9, (by kernel_rfl)
        change wpList _ _ _ _ _ wc.drew
        go_wp2_with fail
        refine (rel_any _ _ _ _ _ _ _ _ _ (ls.take m) (cs.take m) (bs.take m) _ (hl2.take hm0).drew (hl3.take hm1).drew (hl4.take hm2).drew (by omega) (by omega) (by omega)).mono ?_
        rintro e w7 ⟨v7, rfl, hown7, hb7⟩
        obtain ⟨A7, c7, rfl, _, hl7⟩ := own_slice hown7
        replace hb7 : Below wc.heap.size wc w7 := (Below.refl _ _).drew.trans hb7
        replace hl2 := hl2.same hb7
        replace hl3 := hl3.same hb7
        replace hl4 := hl4.same hb7
        replace hr6 := hr6.same hb7
        have hB7 := hB6.trans (hb7.mono hB6.size)
        clear hown7 hb7 hB6
        go_wp2_with fail
        refine (levels_any _ _ _ zs _ hr6 (by omega) hz).mono ?_
        rintro e w8 ⟨v8, rfl, hown8, hb8⟩
        rw [← HLS.out] at hown8
        obtain ⟨A8, c8, rfl, _, hl8⟩ := own_slice hown8
        replace hl2 := hl2.same hb8
        replace hl3 := hl3.same hb8
        replace hl4 := hl4.same hb8
        replace hl7 := hl7.same hb8
        have hB8 := hB7.trans (hb8.mono hB7.size)
        clear hown8 hb8 hB7 hr6
        go_wp2
        have hgt := relL_get (ls.take m) (cs.take m) (bs.take m) (by simp [HL2.out, HL3.out]; omega) (by simp [HL2.out, HL4.out]; omega)
        rw [relOf, if_pos ⟨by simp [HL2.out, HL3.out]; omega, by simp [HL2.out, HL4.out]; omega⟩] at hl7
        have HG := Lib.hid hgt
        have h3t := hl3.take hm1
        clear hgt hl3
        go_loopw [15] (fun i wr => ∃ j : Nat, j ≤ m ∧ i = .int .i64 j ∧ Below w8.heap.size w8 wr)
          (fun i _ => m - (intOf i).toNat)
        case atStart => exact ⟨0, Nat.zero_le _, rfl, Below.refl _ _⟩
        case round =>
          obtain ⟨j, hj, rfl, hb⟩ := hrel
          by_cases hlt : j < m
          · have hj2 : j < ls.length := by rw [HL2.out]; omega
            have hj4 : j < bs.length := by rw [HL4.out]; omega
            obtain ⟨ad8, rfl, hc8⟩ := (hl8.same hb).2 (by omega)
            obtain ⟨ad7, rfl, hc7⟩ := (hl7.same hb).2 (by omega)
            obtain ⟨ad4, rfl, hc4'⟩ := (hl4.same hb).2 (by omega)
            obtain ⟨ad2, rfl, hc2'⟩ := (hl2.same hb).2 (by omega)
            have e8 := hc8 j _ (ints_at hj2)
            have e2 := hc2' j _ (ints_at hj2)
            have e4 := hc4' j _ (ints_at hj4)
            have hq := HG.out j (by simp; omega)
            simp only [List.getElem_take] at hq
            have e7 := hc7 j _ (show (ints .i64 (relL (ls.take m) (cs.take m) (bs.take m)))[j]? = some (.int .i64 _) from by rw [ints, List.getElem?_map, hq]; rfl)
            have h3 := h3t.same hb
            clear hc8 hc7 hc4' hc2' hq hl8 hl7 hl4 hl2 h3t
            generalize ls[j] = l at *
            generalize bs[j] = b at *
            have HC := Lib.hid (fun W (hW : Rd W 1 A3 m (ints .u8 (cs.take m))) => back_any A3 m c3 (cs.take m) j W hW (by omega) hlt)
            generalize backL ((cs.take m).drop j) = bk at *
            obtain ⟨lb, hlb⟩ : ∃ b, (l != -1) = b := ⟨_, rfl⟩
            cases bk <;> cases lb
            all_goals
              simp only [Bool.false_and, Bool.true_and, Bool.false_eq_true, if_false, hlb, if_true] at e7
              go_wp2_with (go_at_call 23; refine (HC.out _ h3).mono ?_; rintro e w' ⟨rfl, rfl⟩)
              go_quiet (fail)
              go_wp2
              go_roundw
              case rel => exact ⟨j + 1, by omega, by go_num, by first | exact hb | exact hb.drew | exact drawn hb _⟩
              case measure => simp [intOf]; omega
          · go_wp2
            go_ret
            exact ⟨rfl, hB8.trans (hb.mono hB8.size)⟩
end Go.Proofs.Ytgkmpndebcdigaa
