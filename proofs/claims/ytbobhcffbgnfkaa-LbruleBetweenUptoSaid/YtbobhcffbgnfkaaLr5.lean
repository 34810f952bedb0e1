/-
  Layer 20: the contract of the document's Status over the program.
-/
import Derived.Test.YtbobhcffbgnfkaaLr4
namespace Go.Proofs.Ytbobhcffbgnfkaa.lr
open Go.RowKit

set_option maxRecDepth 100000 in
set_option maxHeartbeats 16000000 in
theorem status_any (A : Option Addr) (n c0 : Nat) (us : List V) (k : Nat) (w : World) (hr : RU w A n us) (hn : n ≤ 2097152) (hk : k < n) :
    Calls Try.prog 18 #[.slice A n c0, .int .i64 k] w fun e w' => e = .returned (.int .i64 (refAt us k)) ∧ w = w' := by
  rcases Nat.eq_zero_or_pos k with rfl | hk0
  · clear hr
    go_enter Try.func18, Try.ntmps18
    go_wp2
    go_ret
    exact ⟨rfl, rfl⟩
  obtain ⟨g, rfl, hc⟩ := hr.2 (by omega)
  obtain ⟨j, hj⟩ : ∃ j : Nat, j + 1 = k := ⟨k - 1, by omega⟩
  have HOV := Lib.hid (over_any (some ⟨g, 0, none⟩) n c0 us k w hr hn (by omega))
  have HST := Lib.hid (stays_any (some ⟨g, 0, none⟩) n c0 us k (cl us j) (cl us k) w hr hn hk hk0)
  have HR : Hid (refAt us k = refB (cl us j) (cl us k) (overS us k) (us.getD j (0, false)).2 (stays us k (cl us j) (cl us k))) := by
    show _ = _
    rw [refAt, if_neg (by omega), show k - 1 = j from by omega]
  obtain ⟨ea, ej⟩ := hc j (by omega)
  have ec := (hc k hk).1
  have h3 : (k : Int) - 1 = (j : Int) := by omega
  have y1 : (j : Int) < (n : Int) := by omega
  have y2 : j < n := by omega
  have y3 : (k : Int) < (n : Int) := by omega
  have y4 : 0 < (k : Int) := by omega
  have hk63 : k ≤ 2097152 := by omega
  have hj63 : j ≤ 2097152 := by omega
  clear hc hr hj
  generalize cl us j = a at *
  generalize cl us k = c at *
  generalize overS us k = b at *
  generalize (us.getD j (0, false)).2 = jo at *
  generalize stays us k a c = sv at *
  go_enter Try.func18, Try.ntmps18

  go_upto_region 5 with (first | (go_at_call 23; (with_reducible refine (HOV.out).mono ?_); rintro e w' ⟨rfl, rfl⟩) | (go_at_call 24; (with_reducible refine (HST.out).mono ?_); rintro e w' ⟨rfl, rfl⟩))
  go_cut [26] from 8 to 26 (fun s wx => s = .bool (a == 6 && c == 7) ∧ wx = w)
  case first =>
   as_aux_lemma =>
    go_wp2
    all_goals (try subst_vars)
    all_goals go_meet
    all_goals exact ⟨by first | rfl | (refine congrArg Value.bool ?_; simp [*]; done) | (refine congrArg Value.bool ?_; rw [Bool.eq_iff_iff]; simp [*]; done), rfl⟩
  case rest =>
    obtain ⟨rfl, hwc⟩ := hcut
    subst hwc
    cases h10 : (a == 6 && c == 7)
    rotate_left
    · go_wp2
      go_ret
      exact ⟨ret_int (by rw [HR.out]; unfold refB; simp only [h10, if_true]), rfl⟩
    go_upto_region 7 with (first | (go_at_call 23; (with_reducible refine (HOV.out).mono ?_); rintro e w' ⟨rfl, rfl⟩) | (go_at_call 24; (with_reducible refine (HST.out).mono ?_); rintro e w' ⟨rfl, rfl⟩))
    go_cut [40] from 27 to 40 (fun s wx => s = .bool (m1 a) ∧ wx = wc)
    case first =>
     as_aux_lemma =>
      go_wp2
      all_goals (try subst_vars)
      all_goals go_meet
      all_goals exact ⟨by first | rfl | (refine congrArg Value.bool ?_; simp [m1, *]; done) | (refine congrArg Value.bool ?_; rw [Bool.eq_iff_iff]; simp [m1, *]; done), rfl⟩
    case rest =>
      obtain ⟨rfl, hwc⟩ := hcut
      subst hwc
      cases h20 : (m1 a)
      rotate_left
      · go_wp2
        go_ret
        exact ⟨ret_int (by rw [HR.out]; unfold refB; simp only [h10, h20, Bool.false_eq_true, if_false, if_true]), rfl⟩
      go_upto_region 9 with (first | (go_at_call 23; (with_reducible refine (HOV.out).mono ?_); rintro e w' ⟨rfl, rfl⟩) | (go_at_call 24; (with_reducible refine (HST.out).mono ?_); rintro e w' ⟨rfl, rfl⟩))
      go_cut [62] from 41 to 62 (fun s wx => s = .bool (m2 c) ∧ wx = wc)
      case first =>
       as_aux_lemma =>
        go_wp2
        all_goals (try subst_vars)
        all_goals go_meet
        all_goals exact ⟨by first | rfl | (refine congrArg Value.bool ?_; simp [m2, *]; done) | (refine congrArg Value.bool ?_; rw [Bool.eq_iff_iff]; simp [m2, *]; done), rfl⟩
      case rest =>
        obtain ⟨rfl, hwc⟩ := hcut
        subst hwc
        cases h30 : (m2 c)
        rotate_left
        · go_wp2
          go_ret
          exact ⟨ret_int (by rw [HR.out]; unfold refB; simp only [h10, h20, h30, Bool.false_eq_true, if_false, if_true]), rfl⟩
        go_upto_region 12 with (first | (go_at_call 23; (with_reducible refine (HOV.out).mono ?_); rintro e w' ⟨rfl, rfl⟩) | (go_at_call 24; (with_reducible refine (HST.out).mono ?_); rintro e w' ⟨rfl, rfl⟩))
        go_cut [67] from 63 to 67 (fun s wx => s = .bool (b == 10) ∧ wx = wc)
        case first =>
         as_aux_lemma =>
          go_wp2
          all_goals (try subst_vars)
          all_goals go_meet
          all_goals exact ⟨by first | rfl | (refine congrArg Value.bool ?_; simp [*]; done) | (refine congrArg Value.bool ?_; rw [Bool.eq_iff_iff]; simp [*]; done), rfl⟩
        case rest =>
          obtain ⟨rfl, hwc⟩ := hcut
          subst hwc
          cases h40 : (b == 10)
          rotate_left
          · go_wp2
            go_ret
            exact ⟨ret_int (by rw [HR.out]; unfold refB; simp only [h10, h20, h30, h40, Bool.false_eq_true, if_false, if_true]), rfl⟩
          go_upto_region 14 with (first | (go_at_call 23; (with_reducible refine (HOV.out).mono ?_); rintro e w' ⟨rfl, rfl⟩) | (go_at_call 24; (with_reducible refine (HST.out).mono ?_); rintro e w' ⟨rfl, rfl⟩))
          go_cut [101] from 68 to 101 (fun s wx => s = .bool (j1 a c jo) ∧ wx = wc)
          case first =>
           as_aux_lemma =>
            go_wp2
            all_goals (try subst_vars)
            all_goals go_meet
            all_goals exact ⟨by first | rfl | (refine congrArg Value.bool ?_; simp [j1, *]; done) | (refine congrArg Value.bool ?_; rw [Bool.eq_iff_iff]; simp [j1, *]; done), rfl⟩
          case rest =>
            obtain ⟨rfl, hwc⟩ := hcut
            subst hwc
            cases h50 : (j1 a c jo)
            rotate_left
            · go_wp2
              go_ret
              exact ⟨ret_int (by rw [HR.out]; unfold refB; simp only [h10, h20, h30, h40, h50, Bool.false_eq_true, if_false, if_true]), rfl⟩
            go_upto_region 16 with (first | (go_at_call 23; (with_reducible refine (HOV.out).mono ?_); rintro e w' ⟨rfl, rfl⟩) | (go_at_call 24; (with_reducible refine (HST.out).mono ?_); rintro e w' ⟨rfl, rfl⟩))
            go_cut [119] from 102 to 119 (fun s wx => s = .bool (m3 c) ∧ wx = wc)
            case first =>
             as_aux_lemma =>
              go_wp2
              all_goals (try subst_vars)
              all_goals go_meet
              all_goals exact ⟨by first | rfl | (refine congrArg Value.bool ?_; simp [m3, *]; done) | (refine congrArg Value.bool ?_; rw [Bool.eq_iff_iff]; simp [m3, *]; done), rfl⟩
            case rest =>
              obtain ⟨rfl, hwc⟩ := hcut
              subst hwc
              cases h60 : (m3 c)
              rotate_left
              · go_wp2
                go_ret
                exact ⟨ret_int (by rw [HR.out]; unfold refB; simp only [h10, h20, h30, h40, h50, h60, Bool.false_eq_true, if_false, if_true]), rfl⟩
              go_upto_region 18 with (first | (go_at_call 23; (with_reducible refine (HOV.out).mono ?_); rintro e w' ⟨rfl, rfl⟩) | (go_at_call 24; (with_reducible refine (HST.out).mono ?_); rintro e w' ⟨rfl, rfl⟩))
              go_cut [149] from 120 to 149 (fun s wx => s = .bool (j2 b c) ∧ wx = wc)
              case first =>
               as_aux_lemma =>
                go_wp2
                all_goals (try subst_vars)
                all_goals go_meet
                all_goals exact ⟨by first | rfl | (refine congrArg Value.bool ?_; simp [j2, *]; done) | (refine congrArg Value.bool ?_; rw [Bool.eq_iff_iff]; simp [j2, *]; done), rfl⟩
              case rest =>
                obtain ⟨rfl, hwc⟩ := hcut
                subst hwc
                cases h70 : (j2 b c)
                rotate_left
                · go_wp2
                  go_ret
                  exact ⟨ret_int (by rw [HR.out]; unfold refB; simp only [h10, h20, h30, h40, h50, h60, h70, Bool.false_eq_true, if_false, if_true]), rfl⟩
                go_upto_region 20 with (first | (go_at_call 23; (with_reducible refine (HOV.out).mono ?_); rintro e w' ⟨rfl, rfl⟩) | (go_at_call 24; (with_reducible refine (HST.out).mono ?_); rintro e w' ⟨rfl, rfl⟩))
                go_cut [151] from 150 to 151 (fun s wx => s = .bool (a == 9) ∧ wx = wc)
                case first =>
                 as_aux_lemma =>
                  go_wp2
                  all_goals (try subst_vars)
                  all_goals go_meet
                  all_goals exact ⟨by first | rfl | (refine congrArg Value.bool ?_; simp [*]; done) | (refine congrArg Value.bool ?_; rw [Bool.eq_iff_iff]; simp [*]; done), rfl⟩
                case rest =>
                  obtain ⟨rfl, hwc⟩ := hcut
                  subst hwc
                  cases h80 : (a == 9)
                  rotate_left
                  · go_wp2
                    go_ret
                    exact ⟨ret_int (by rw [HR.out]; unfold refB; simp only [h10, h20, h30, h40, h50, h60, h70, h80, Bool.false_eq_true, if_false, if_true]), rfl⟩
                  go_upto_region 22 with (first | (go_at_call 23; (with_reducible refine (HOV.out).mono ?_); rintro e w' ⟨rfl, rfl⟩) | (go_at_call 24; (with_reducible refine (HST.out).mono ?_); rintro e w' ⟨rfl, rfl⟩))
                  go_cut [157] from 152 to 157 (fun s wx => s = .bool (c == 22 || a == 22) ∧ wx = wc)
                  case first =>
                   as_aux_lemma =>
                    go_wp2
                    all_goals (try subst_vars)
                    all_goals go_meet
                    all_goals exact ⟨by first | rfl | (refine congrArg Value.bool ?_; simp [*]; done) | (refine congrArg Value.bool ?_; rw [Bool.eq_iff_iff]; simp [*]; done), rfl⟩
                  case rest =>
                    obtain ⟨rfl, hwc⟩ := hcut
                    subst hwc
                    cases h90 : (c == 22 || a == 22)
                    rotate_left
                    · go_wp2
                      go_ret
                      exact ⟨ret_int (by rw [HR.out]; unfold refB; simp only [h10, h20, h30, h40, h50, h60, h70, h80, h90, Bool.false_eq_true, if_false, if_true]), rfl⟩
                    go_upto_region 24 with (first | (go_at_call 23; (with_reducible refine (HOV.out).mono ?_); rintro e w' ⟨rfl, rfl⟩) | (go_at_call 24; (with_reducible refine (HST.out).mono ?_); rintro e w' ⟨rfl, rfl⟩))
                    go_cut [163] from 158 to 163 (fun s wx => s = .bool (c == 13 || a == 13) ∧ wx = wc)
                    case first =>
                     as_aux_lemma =>
                      go_wp2
                      all_goals (try subst_vars)
                      all_goals go_meet
                      all_goals exact ⟨by first | rfl | (refine congrArg Value.bool ?_; simp [*]; done) | (refine congrArg Value.bool ?_; rw [Bool.eq_iff_iff]; simp [*]; done), rfl⟩
                    case rest =>
                      obtain ⟨rfl, hwc⟩ := hcut
                      subst hwc
                      cases h100 : (c == 13 || a == 13)
                      rotate_left
                      · go_wp2
                        go_ret
                        exact ⟨ret_int (by rw [HR.out]; unfold refB; simp only [h10, h20, h30, h40, h50, h60, h70, h80, h90, h100, Bool.false_eq_true, if_false, if_true]), rfl⟩
                      cases sv
                      · go_wp2_with (first | (go_at_call 23; (with_reducible refine (HOV.out).mono ?_); rintro e w' ⟨rfl, rfl⟩) | (go_at_call 24; (with_reducible refine (HST.out).mono ?_); rintro e w' ⟨rfl, rfl⟩))
                        go_ret
                        exact ⟨ret_int (by rw [HR.out]; unfold refB; simp only [h10, h20, h30, h40, h50, h60, h70, h80, h90, h100, Bool.false_eq_true, if_false]), rfl⟩
                      · go_wp2_with (first | (go_at_call 23; (with_reducible refine (HOV.out).mono ?_); rintro e w' ⟨rfl, rfl⟩) | (go_at_call 24; (with_reducible refine (HST.out).mono ?_); rintro e w' ⟨rfl, rfl⟩))
                        go_ret
                        exact ⟨ret_int (by rw [HR.out]; unfold refB; simp only [h10, h20, h30, h40, h50, h60, h70, h80, h90, h100, Bool.false_eq_true, if_false, if_true]), rfl⟩
end Go.Proofs.Ytbobhcffbgnfkaa.lr
