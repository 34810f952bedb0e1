/-
  Layer 20: the contracts of the document's rules 16 to 29, and of its Status, over the program.
-/
import Derived.Test.YtbobhcffbgnfkaaLrk
import Derived.Deep.DeepCutAuto
import Derived.Deep.CutRange
namespace Go.Proofs.Ytbobhcffbgnfkaa.lr
open Go.RowKit

set_option maxRecDepth 100000 in
set_option maxHeartbeats 16000000 in
theorem stays_any (A : Option Addr) (n c0 : Nat) (us : List V) (k : Nat) (a c : Int) (w : World) (hr : RU w A n us) (hn : n ≤ 2097152) (hk : k < n) (hk0 : 0 < k) :
    Calls Try.prog 24 #[.slice A n c0, .int .i64 k, .int .i64 a, .int .i64 c] w fun e w' => e = .returned (.bool (stays us k a c)) ∧ w = w' := by
  obtain ⟨g, rfl, hc⟩ := hr.2 (by omega)
  obtain ⟨j, hj⟩ : ∃ j : Nat, j + 1 = k := ⟨k - 1, by omega⟩
  have HNK := Lib.hid (num_any (some ⟨g, 0, none⟩) n c0 us k w hr hn (by omega))
  have HNJ := Lib.hid (num_any (some ⟨g, 0, none⟩) n c0 us j w hr hn (by omega))
  have HOD := Lib.hid (odd_any (some ⟨g, 0, none⟩) n c0 us k w hr hn (by omega))
  obtain ⟨vh, hvh⟩ : ∃ b, hebR us k = b := ⟨_, rfl⟩
  obtain ⟨vx, hvx⟩ : ∃ b, nextB us k = b := ⟨_, rfl⟩
  obtain ⟨n1, hn1⟩ : ∃ b, numR us k = b := ⟨_, rfl⟩
  obtain ⟨n0, hn0⟩ : ∃ b, numR us j = b := ⟨_, rfl⟩
  obtain ⟨vo, hvo⟩ : ∃ b, decide (oddN us k % 2 = 1) = b := ⟨_, rfl⟩
  have HSY : Hid (stays us k a c = staysB a c vh vx n1 n0 vo) := by
    show _ = _
    rw [stays, show k - 1 = j from by omega, hvh, hvx, hn1, hn0, hvo]
  rw [hn1] at HNK
  rw [hn0] at HNJ
  rw [hvo] at HOD
  have HVH := Lib.hid hvh
  have HVX := Lib.hid hvx
  have HC := Lib.hid hc
  have HLU := Lib.hid hr.1
  have h3 : (k : Int) - 1 = (j : Int) := by omega
  have hk63 : k ≤ 2097152 := by omega
  clear hc hr hj hvh hvx hn1 hn0 hvo
  go_enter Try.func24, Try.ntmps24

  go_upto_region 1 with (fail)
  go_cut [26] from 9 to 26 (fun s wx => s = .bool (st1 a c) ∧ wx = w)
  case first =>
   as_aux_lemma =>
    go_wp2
    all_goals (try subst_vars)
    all_goals go_meet
    all_goals exact ⟨by first | rfl | (refine congrArg Value.bool ?_; simp [st1, *]; done) | (refine congrArg Value.bool ?_; rw [Bool.eq_iff_iff]; simp [st1, *]; done), rfl⟩
  case rest =>
    obtain ⟨rfl, hwc⟩ := hcut
    subst hwc
    cases h10 : st1 a c
    rotate_left
    · go_wp2
      go_ret
      exact ⟨ret_bool (by rw [HSY.out]; unfold staysB; simp only [h10, Bool.true_or]), rfl⟩
    go_upto_region 3 with (fail)
    go_cut [53] from 27 to 53 (fun s wx => s = .bool (st2 a c vh) ∧ wx = wc)
    case first =>
     as_aux_lemma =>
      by_cases h2 : 2 ≤ k
      · obtain ⟨i, hi⟩ : ∃ i : Nat, i + 2 = k := ⟨k - 2, by omega⟩
        have hx : vh = (cl us i == 2) := by rw [← HVH.out]; unfold hebR; rw [show k - 2 = i from by omega]; simp [h2]
        clear HVH HSY
        subst hx
        have e1 := (HC.out i (by omega)).1
        have z1 : (k : Int) - 2 = (i : Int) := by omega
        have z2 : (i : Int) < (n : Int) := by omega
        have z3 : i < n := by omega
        have z4 : (2 : Int) ≤ (k : Int) := by omega
        clear hi h2
        generalize cl us i = xi at *
        go_wp2
        all_goals (try subst_vars)
        all_goals go_meet
        all_goals exact ⟨by first | rfl | (refine congrArg Value.bool ?_; simp [st2, *]; done) | (refine congrArg Value.bool ?_; rw [Bool.eq_iff_iff]; simp [st2, *]; done), rfl⟩
      · have hx : vh = false := by rw [← HVH.out]; unfold hebR; simp [h2]
        clear HVH HSY
        subst hx
        have z4 : (k : Int) < 2 := by omega
        clear h2
        go_wp2
        all_goals (try subst_vars)
        all_goals go_meet
        all_goals exact ⟨by first | rfl | (refine congrArg Value.bool ?_; simp [st2, *]; done) | (refine congrArg Value.bool ?_; rw [Bool.eq_iff_iff]; simp [st2, *]; done), rfl⟩
    case rest =>
      obtain ⟨rfl, hwc⟩ := hcut
      subst hwc
      cases h20 : st2 a c vh
      rotate_left
      · go_wp2
        go_ret
        exact ⟨ret_bool (by rw [HSY.out]; unfold staysB; simp only [h10, h20, Bool.true_or, Bool.false_or]), rfl⟩
      go_upto_region 5 with (fail)
      go_cut [99] from 54 to 99 (fun s wx => s = .bool (st3 a c) ∧ wx = wc)
      case first =>
       as_aux_lemma =>
        rcases kinds5 a with ⟨g0, g1, g2, g3, g4⟩ | ⟨g0, g1, g2, g3, g4⟩ | ⟨g0, g1, g2, g3, g4⟩ | ⟨g0, g1, g2, g3, g4⟩ | ⟨g0, g1, g2, g3, g4⟩ | ⟨g0, g1, g2, g3, g4⟩
        all_goals (go_wp2_with (first | (go_at_call 28; (with_reducible refine (rletter_any _ _).mono ?_); rintro e w' ⟨rfl, rfl⟩) | (go_at_call 29; (with_reducible refine (rpic_any _ _).mono ?_); rintro e w' ⟨rfl, rfl⟩) | (go_at_call 32; (with_reducible refine (rkor_any _ _).mono ?_); rintro e w' ⟨rfl, rfl⟩) | (go_at_call 30; (with_reducible refine (rmon_any _ _).mono ?_); rintro e w' ⟨rfl, rfl⟩)))
        all_goals (try subst_vars)
        all_goals go_meet
        all_goals exact ⟨by first | rfl | (refine congrArg Value.bool ?_; simp [st3, *]; done) | (refine congrArg Value.bool ?_; rw [Bool.eq_iff_iff]; simp [st3, *]; done), rfl⟩
      case rest =>
        obtain ⟨rfl, hwc⟩ := hcut
        subst hwc
        cases h30 : st3 a c
        rotate_left
        · go_wp2
          go_ret
          exact ⟨ret_bool (by rw [HSY.out]; unfold staysB; simp only [h10, h20, h30, Bool.true_or, Bool.false_or]), rfl⟩
        go_upto_region 7 with (fail)
        go_cut [141] from 100 to 141 (fun s wx => s = .bool (st4 a c vx) ∧ wx = wc)
        case first =>
         as_aux_lemma =>
          by_cases h2 : k + 1 < n
          · obtain ⟨m, hm⟩ : ∃ m : Nat, k + 1 = m := ⟨_, rfl⟩
            have hx : vx = (cl us m == 27) := by rw [← HVX.out]; unfold nextB; rw [HLU.out, hm]; simp [show m < n from by omega]
            clear HVX HSY
            subst hx
            have e1 := (HC.out m (by omega)).1
            have z1 : (k : Int) + 1 = (m : Int) := by omega
            have z2 : (m : Int) < (n : Int) := by omega
            have z3 : m < n := by omega
            clear hm h2
            generalize cl us m = xi at *
            rcases kinds7 a with ⟨g0, g1, g2⟩ | ⟨g0, g1, g2⟩ | ⟨g0, g1, g2⟩ | ⟨g0, g1, g2⟩
            all_goals (go_wp2_with (first | (go_at_call 28; (with_reducible refine (rletter_any _ _).mono ?_); rintro e w' ⟨rfl, rfl⟩) | (go_at_call 29; (with_reducible refine (rpic_any _ _).mono ?_); rintro e w' ⟨rfl, rfl⟩) | (go_at_call 32; (with_reducible refine (rkor_any _ _).mono ?_); rintro e w' ⟨rfl, rfl⟩) | (go_at_call 30; (with_reducible refine (rmon_any _ _).mono ?_); rintro e w' ⟨rfl, rfl⟩)))
            all_goals (try subst_vars)
            all_goals go_meet
            all_goals exact ⟨by first | rfl | (refine congrArg Value.bool ?_; simp [st4, *]; done) | (refine congrArg Value.bool ?_; rw [Bool.eq_iff_iff]; simp [st4, *]; done), rfl⟩
          · have hx : vx = false := by rw [← HVX.out]; unfold nextB; rw [HLU.out]; simp [h2]
            clear HVX HSY
            subst hx
            have z4 : (n : Int) ≤ (k : Int) + 1 := by omega
            have z5 : n ≤ k + 1 := by omega
            clear h2
            rcases kinds7 a with ⟨g0, g1, g2⟩ | ⟨g0, g1, g2⟩ | ⟨g0, g1, g2⟩ | ⟨g0, g1, g2⟩
            all_goals (go_wp2_with (first | (go_at_call 28; (with_reducible refine (rletter_any _ _).mono ?_); rintro e w' ⟨rfl, rfl⟩) | (go_at_call 29; (with_reducible refine (rpic_any _ _).mono ?_); rintro e w' ⟨rfl, rfl⟩) | (go_at_call 32; (with_reducible refine (rkor_any _ _).mono ?_); rintro e w' ⟨rfl, rfl⟩) | (go_at_call 30; (with_reducible refine (rmon_any _ _).mono ?_); rintro e w' ⟨rfl, rfl⟩)))
            all_goals (try subst_vars)
            all_goals go_meet
            all_goals exact ⟨by first | rfl | (refine congrArg Value.bool ?_; simp [st4, *]; done) | (refine congrArg Value.bool ?_; rw [Bool.eq_iff_iff]; simp [st4, *]; done), rfl⟩
        case rest =>
          obtain ⟨rfl, hwc⟩ := hcut
          subst hwc
          cases h40 : st4 a c vx
          rotate_left
          · go_wp2
            go_ret
            exact ⟨ret_bool (by rw [HSY.out]; unfold staysB; simp only [h10, h20, h30, h40, Bool.true_or, Bool.false_or]), rfl⟩
          go_upto_region 9 with (fail)
          go_cut [171] from 142 to 171 (fun s wx => s = .bool (st5 a c n1 n0) ∧ wx = wc)
          case first =>
           as_aux_lemma =>
            go_wp2_with (first | (go_at_call 31; (with_reducible refine (HNK.out).mono ?_); rintro e w' ⟨rfl, rfl⟩) | (go_at_call 31; (with_reducible refine (HNJ.out).mono ?_); rintro e w' ⟨rfl, rfl⟩) | (go_at_call 30; (with_reducible refine (rmon_any _ _).mono ?_); rintro e w' ⟨rfl, rfl⟩))
            all_goals (try subst_vars)
            all_goals go_meet
            all_goals exact ⟨by first | rfl | (refine congrArg Value.bool ?_; simp [st5, *]; done) | (refine congrArg Value.bool ?_; rw [Bool.eq_iff_iff]; simp [st5, *]; done), rfl⟩
          case rest =>
            obtain ⟨rfl, hwc⟩ := hcut
            subst hwc
            cases h50 : st5 a c n1 n0
            rotate_left
            · go_wp2
              go_ret
              exact ⟨ret_bool (by rw [HSY.out]; unfold staysB; simp only [h10, h20, h30, h40, h50, Bool.true_or, Bool.false_or]), rfl⟩
            go_upto_region 11 with (fail)
            go_cut [217] from 172 to 217 (fun s wx => s = .bool (st6 a c) ∧ wx = wc)
            case first =>
             as_aux_lemma =>
              rcases kinds11 a with ⟨g0, g1, g2, g3, g4⟩ | ⟨g0, g1, g2, g3, g4⟩ | ⟨g0, g1, g2, g3, g4⟩ | ⟨g0, g1, g2, g3, g4⟩ | ⟨g0, g1, g2, g3, g4⟩ | ⟨g0, g1, g2, g3, g4⟩
              all_goals (go_wp2)
              all_goals (try subst_vars)
              all_goals go_meet
              all_goals exact ⟨by first | rfl | (refine congrArg Value.bool ?_; simp [st6, *]; done) | (refine congrArg Value.bool ?_; rw [Bool.eq_iff_iff]; simp [st6, *]; done), rfl⟩
            case rest =>
              obtain ⟨rfl, hwc⟩ := hcut
              subst hwc
              cases h60 : st6 a c
              rotate_left
              · go_wp2
                go_ret
                exact ⟨ret_bool (by rw [HSY.out]; unfold staysB; simp only [h10, h20, h30, h40, h50, h60, Bool.true_or, Bool.false_or]), rfl⟩
              go_upto_region 13 with (fail)
              go_cut [267] from 218 to 267 (fun s wx => s = .bool (st7 a c) ∧ wx = wc)
              case first =>
               as_aux_lemma =>
                rcases kinds13 a with ⟨g0, g1, g2, g3, g4, g5⟩ | ⟨g0, g1, g2, g3, g4, g5⟩ | ⟨g0, g1, g2, g3, g4, g5⟩ | ⟨g0, g1, g2, g3, g4, g5⟩ | ⟨g0, g1, g2, g3, g4, g5⟩ | ⟨g0, g1, g2, g3, g4, g5⟩ | ⟨g0, g1, g2, g3, g4, g5⟩
                all_goals (go_wp2_with (first | (go_at_call 28; (with_reducible refine (rletter_any _ _).mono ?_); rintro e w' ⟨rfl, rfl⟩) | (go_at_call 29; (with_reducible refine (rpic_any _ _).mono ?_); rintro e w' ⟨rfl, rfl⟩) | (go_at_call 32; (with_reducible refine (rkor_any _ _).mono ?_); rintro e w' ⟨rfl, rfl⟩) | (go_at_call 30; (with_reducible refine (rmon_any _ _).mono ?_); rintro e w' ⟨rfl, rfl⟩)))
                all_goals (try subst_vars)
                all_goals go_meet
                all_goals exact ⟨by first | rfl | (refine congrArg Value.bool ?_; simp [st7, *]; done) | (refine congrArg Value.bool ?_; rw [Bool.eq_iff_iff]; simp [st7, *]; done), rfl⟩
              case rest =>
                obtain ⟨rfl, hwc⟩ := hcut
                subst hwc
                cases h70 : st7 a c
                rotate_left
                · go_wp2
                  go_ret
                  exact ⟨ret_bool (by rw [HSY.out]; unfold staysB; simp only [h10, h20, h30, h40, h50, h60, h70, Bool.true_or, Bool.false_or]), rfl⟩
                go_upto_region 15 with (fail)
                have HF : Hid (stays us k a c = st8 a c vo) := by show _ = _; rw [HSY.out]; unfold staysB; simp only [h10, h20, h30, h40, h50, h60, h70, Bool.false_or]
                clear h10 h20 h30 h40 h50 h60 h70
                go_wp2_with (first | (go_at_call 33; (with_reducible refine (HOD.out).mono ?_); rintro e w' ⟨rfl, rfl⟩))
                all_goals go_ret
                all_goals exact ⟨ret_bool (by rw [HF.out]; first | rfl | (unfold st8; simp_all; done) | (unfold st8; rw [Bool.eq_iff_iff]; simp_all; done)), rfl⟩
end Go.Proofs.Ytbobhcffbgnfkaa.lr
