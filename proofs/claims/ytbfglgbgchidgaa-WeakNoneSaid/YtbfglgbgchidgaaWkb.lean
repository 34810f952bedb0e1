/-
  Layer 14: the contracts of weak.last, weak.numbers and weak.Resolve over the program.
-/
import Derived.Test.YtbfglgbgchidgaaWka
import Derived.IntWalk
import Derived.Deep.DeepCutAuto
namespace Go.Proofs.Ytbfglgbgchidgaa.wk
open Go.RowKit

set_option maxRecDepth 100000 in
set_option maxHeartbeats 4000000 in
theorem last_any (A : Option Addr) (n c : Nat) (cs : List Int) (sos : Int) (w : World) (base : Nat) (h : w.ownsRow base 26 1 (.slice A n c) n (ints .u8 cs)) (hn : n ≤ 140737488351232) :
    Calls Try.prog 16 #[.slice A n c, .int .u8 sos] w fun e w' => e = .returned (.tuple #[]) ∧ w'.ownsRow base 26 1 (.slice A n c) n (ints .u8 (lastL sos cs)) ∧ Below base w w' := by
  have HL := Lib.hid (show cs.length = n by simpa using h.1)
  go_enter Try.func16, Try.ntmps16
  go_wp2
  go_loopw [4, 10] (fun s i wr => ∃ (k : Nat) (st : Int) (done : List Int), k ≤ n ∧ done.length = k ∧ s = .int .u8 st ∧ i = .int .i64 k ∧
      lastL sos cs = done ++ lastL st (cs.drop k) ∧ wr.ownsRow base 26 1 (.slice A n c) n (ints .u8 (done ++ cs.drop k)) ∧ Below base w wr)
    (fun _ i _ => n - (intOf i).toNat)
  case atStart => exact ⟨0, sos, [], Nat.zero_le _, rfl, rfl, rfl, by simp, by simpa using h, Below.refl _ _⟩
  case round =>
    clear h
    obtain ⟨k, st, done, hk, hd, rfl, rfl, hf, hown, hb⟩ := hrel
    by_cases hlt : k < n
    · have hkc : k < cs.length := by rw [HL.out]; exact hlt
      obtain ⟨g, cap, hv, hg1, hg2⟩ := hown.form (by omega)
      injection hv with hA hnn hcc
      subst hA; subst hcc
      rw [List.drop_eq_getElem_cons hkc] at hf hown
      generalize cs[k] = x at *
      have HST : Hid (∀ y : Int, (wr.setCell ⟨g, k, none⟩ (.int .u8 y)).ownsRow base 26 1 (.slice (some ⟨g, 0, none⟩) n c) n (ints .u8 (done ++ [y] ++ cs.drop (k + 1)))) := fun y => by
        have := (hown.stored k (.int .u8 y)).1
        rwa [ints_set, row_set _ _ _ _ k hd] at this
      have hck := (hown.cellAt k (by omega)).trans (ints_row_at _ _ _ k hd)
      have hfk := hown.frozenAt k
      have HBL := Lib.hid (fun y : Int => hb.setCell (p := ⟨g, k, none⟩) hg1 (.int .u8 y))
      have HO := Lib.hid (show wr.ownsRow base 26 1 (.slice (some ⟨g, 0, none⟩) n c) n (ints .u8 (done ++ [x] ++ cs.drop (k + 1))) from by simpa using hown)
      have HF := Lib.hid hf
      have HD := Lib.hid (show ∀ y : Int, (done ++ [y]).length = k + 1 from fun y => by simp [hd])
      clear hf hown hd
      go_wp2_with (go_at_call 25; (with_reducible refine (strong_any _ _).mono ?_); rintro e w' ⟨rfl, rfl⟩)
      all_goals
        go_roundw
        case rel =>
          first
            | exact ⟨k + 1, _, done ++ [_], by omega, HD.out _, rfl, by go_num, by rw [HF.out]; clear HST HBL HD HO; simp_all [lastL, strongC], HST.out _, HBL.out _⟩
            | exact ⟨k + 1, _, done ++ [_], by omega, HD.out _, rfl, by go_num, by rw [HF.out]; clear HST HBL HD HO; simp_all [lastL, strongC], HO.out, hb⟩
        case measure => simp [intOf]; omega
    · obtain rfl : n = k := by omega
      go_wp2
      go_end0
      rw [List.drop_eq_nil_of_le (by rw [HL.out]; omega)] at hf hown
      refine ⟨rfl, ?_, hb⟩
      rw [hf]; simpa [lastL] using hown

def map6At (l : List Int) (k : Nat) : List Int := map6 (l.take k) ++ l.drop k

set_option maxRecDepth 100000 in
set_option maxHeartbeats 8000000 in
theorem numbers_any (A : Option Addr) (n c : Nat) (cs : List Int) (w : World) (base : Nat) (h : w.ownsRow base 26 1 (.slice A n c) n (ints .u8 cs)) (hn : n ≤ 140737488351232) :
    Calls Try.prog 15 #[.slice A n c] w fun e w' => e = .returned (.tuple #[]) ∧ w'.ownsRow base 26 1 (.slice A n c) n (ints .u8 (map6 (etL (-1) (num1W cs)))) ∧ Below base w w' := by
  have HL := Lib.hid (show cs.length = n by simpa using h.1)
  go_enter Try.func15, Try.ntmps15
  go_wp2
  go_loopw [2] (fun i wr => ∃ (k : Nat) (cur : List Int), 1 ≤ k ∧ k ≤ n + 1 ∧ i = .int .i64 k ∧ Inv1 cs k cur ∧ wr.ownsRow base 26 1 (.slice A n c) n (ints .u8 cur) ∧ Below base w wr)
    (fun i _ => n + 1 - (intOf i).toNat)
  case atStart => exact ⟨1, cs, Nat.le_refl _, by omega, rfl, inv1_start cs, h, Below.refl _ _⟩
  case round =>
    clear h
    obtain ⟨k, cur, hk1, hk, rfl, hI, hown, hb⟩ := hrel
    by_cases hlt : k + 1 < n
    · obtain ⟨j, hj⟩ : ∃ j, k = j + 1 := ⟨k - 1, by omega⟩
      obtain ⟨m, hm⟩ : ∃ m, k + 1 = m := ⟨_, rfl⟩
      obtain ⟨p, x, b, e1, e2, e3, hy, hno⟩ := inv1_shape hI (by rw [HL.out]; exact hlt) j hj
      rw [hm] at e3
      obtain ⟨g, cap, hv, hg1, hg2⟩ := hown.form (by omega)
      injection hv with hA hnn hcc
      subst hA; subst hcc
      have c1 := (hown.cellAt j (by omega)).trans (show _ = some (Value.int .u8 p) from by simp [ints, e1])
      have c2 := (hown.cellAt k (by omega)).trans (show _ = some (Value.int .u8 x) from by simp [ints, e2])
      have c3 := (hown.cellAt m (by omega)).trans (show _ = some (Value.int .u8 b) from by simp [ints, e3])
      have fk := hown.frozenAt k
      have hst := (hown.stored k (.int .u8 p)).1
      rw [ints_set] at hst
      have HST := Lib.hid (show ∀ q y, y = p → ((wr.drewN q).setCell ⟨g, k, none⟩ (.int .u8 y)).ownsRow base 26 1 (.slice (some ⟨g, 0, none⟩) n c) n (ints .u8 (cur.set k p)) from fun _ _ hy => hy ▸ hst)
      have HO := Lib.hid (show ∀ q, (wr.drewN q).ownsRow base 26 1 (.slice (some ⟨g, 0, none⟩) n c) n (ints .u8 cur) from fun _ => hown)
      have HBL := Lib.hid (fun q y => (drawn hb q).setCell (p := ⟨g, k, none⟩) hg1 (.int .u8 y))
      have HB := Lib.hid (fun q => drawn hb q)
      have HY := Lib.hid hy
      have HN := Lib.hid hno
      clear hst hown hy hno e1 e2 e3 hI
      have q1 : (j : Int) < (n : Int) := by omega
      have q2 : (m : Int) < (n : Int) := by omega
      have q3 : (k : Int) < (n : Int) := by omega
      have q4 : k < n := by omega
      have HJ := Lib.hid hj
      have HM := Lib.hid hm
      clear hj hm
      go_upto_region 3 with (fail)
      have x1 : IntKind.i64.wrap ((k : Int) - 1) = (j : Int) := by rw [IntWalk.i64_in _ (by have := HJ.out; omega)]; have := HJ.out; omega
      have x2 : IntKind.i64.wrap ((k : Int) + 1) = (m : Int) := by rw [IntWalk.i64_in _ (by omega)]; have := HM.out; omega
      go_quiet (fail)
      clear x1 x2
      have c2' : (wr.drewN nq).cell? ⟨g, k, none⟩ = some (.int .u8 x) := c2
      go_wp2
      all_goals
        go_roundw
        case rel =>
          first
            | exact ⟨k + 1, _, by omega, by omega, by go_num, HY.out (by clear HST HO HBL HB HN HJ HM; unfold cond1; simp_all), HST.out _ _ (by omega), HBL.out _ _⟩
            | exact ⟨k + 1, _, by omega, by omega, by go_num, HN.out (by clear HST HO HBL HB HY HJ HM; unfold cond1; simp_all), HO.out _, HB.out _⟩
        case measure => simp [intOf]; omega
    · have he := inv1_end hI (by rw [HL.out]; omega)
      subst he
      clear hI
      have hk' : n ≤ k + 1 := by omega
      go_wp2
      obtain ⟨l, hl⟩ : ∃ l, num1W cs = l := ⟨_, rfl⟩
      rw [hl] at hown
      have HL2 := Lib.hid (show l.length = n by simpa using hown.1)
      have HW := Lib.hid hl
      clear hl
      go_loopw [5] (fun i wr => ∃ (k : Nat) (cur : List Int), k ≤ n ∧ i = .int .i64 k ∧ Inv2 l k cur ∧ wr.ownsRow base 26 1 (.slice A n c) n (ints .u8 cur) ∧ Below base w wr)
        (fun i _ => n - (intOf i).toNat)
      case atStart => exact ⟨0, l, Nat.zero_le _, rfl, inv2_start l, hown, hb⟩
      case round =>
        clear hown hb hk1 hk hk'
        obtain ⟨k, cur, hk, rfl, hI, hown, hb⟩ := hrel
        by_cases hlt : k < n
        · obtain ⟨x, e1, hne, heq⟩ := inv2_shape hI (by rw [HL2.out]; exact hlt)
          obtain ⟨g, cap, hv, hg1, hg2⟩ := hown.form (by omega)
          injection hv with hA hnn hcc
          subst hA; subst hcc
          have c2 := (hown.cellAt k (by omega)).trans (show _ = some (Value.int .u8 x) from by simp [ints, e1])
          by_cases h5 : x = 5
          · subst h5
            obtain ⟨m, hm0, hmn, hq, hx, hI2⟩ := heq rfl
            rw [HL2.out] at hmn
            clear hne heq hI
            obtain ⟨E, hE⟩ : ∃ E, k + m = E := ⟨_, rfl⟩
            rw [hE] at hmn hx hI2
            have hkE : k < E := by omega
            have hcl := inv2_len hI2 (by rw [HL2.out]; exact hmn)
            rw [setN_len, HL2.out] at hcl
            have hq5 : Hid (∀ e, k ≤ e → e < E → wr.cell? ⟨g, e, none⟩ = some (.int .u8 5)) := fun e h1 h2 =>
              (hown.cellAt e (by omega)).trans (by
                have := hq (e - k) (by omega)
                rw [show k + (e - k) = e from by omega] at this
                simp [ints, this])
            have hEx : Hid (E < n → ∃ x, cur[E]? = some x ∧ ¬ x = 5 ∧ wr.cell? ⟨g, E, none⟩ = some (.int .u8 x)) := fun h => by
              have h1 : cur[E]? = some cur[E] := List.getElem?_eq_getElem (by omega)
              exact ⟨cur[E], h1, hx _ h1, (hown.cellAt E (by omega)).trans (by simp [ints, h1])⟩
            have HJ : Hid (0 < k → ∃ j y, k = j + 1 ∧ cur[j]? = some y ∧ wr.cell? ⟨g, j, none⟩ = some (.int .u8 y)) := fun h => by
              have h1 : cur[k - 1]? = some cur[k - 1] := List.getElem?_eq_getElem (by omega)
              exact ⟨k - 1, cur[k - 1], by omega, h1, (hown.cellAt (k - 1) (by omega)).trans (by simp [ints, h1])⟩
            have HO := Lib.hid hown
            have HI := Lib.hid hI2
            have HE := Lib.hid hE
            have HCL := Lib.hid hcl
            clear hq hx hown hI2 hE e1 hcl
            go_wp2
            go_loop [6] (fun i => ∃ e : Nat, k ≤ e ∧ e ≤ E ∧ i = .int .i64 e) (fun i => E - (intOf i).toNat)
            case atStart => exact ⟨k, Nat.le_refl _, by omega, rfl⟩
            case round =>
              obtain ⟨e, hke, heE, rfl⟩ := hrel
              by_cases hlE : e < E
              · have c5 := hq5.out e hke hlE
                go_wp2
                go_round
                case rel => exact ⟨e + 1, by omega, by omega, by go_num⟩
                case measure => simp [intOf]; omega
              · obtain rfl : E = e := by omega
                clear hke heE hlE
                by_cases hEn : E < n
                · obtain ⟨x, hx1, hx5, c6⟩ := hEx.out hEn
                  have hx5' : (x == 5) = false := by simpa using hx5
                  clear hx1 hx5
                  go_upto_region 15 with (fail)
                  clear c6 hx5'
                  go_cut [110] (fun s wx => s = .bool (decide ((0 < k ∧ cur[k - 1]? = some 3) ∨ cur[E]? = some 3)) ∧ wx = wr)
                  case first =>
                    have hB1 : Hid (0 < k → ∃ j y, k = j + 1 ∧ cur[k - 1]? = some y ∧ wr.cell? ⟨g, j, none⟩ = some (.int .u8 y)) := fun h => by
                      obtain ⟨j, y, h1, h2, h3⟩ := HJ.out h
                      exact ⟨j, y, h1, by rw [show k - 1 = j from by omega]; exact h2, h3⟩
                    have hB2 : Hid (¬ E < n → cur[E]? = none) := fun h => List.getElem?_eq_none (by rw [HCL.out]; omega)
                    by_cases hk0 : 0 < k
                    · obtain ⟨j, y, hj, hy, cj⟩ := hB1.out hk0
                      have x1 : (k : Int) - 1 = (j : Int) := by omega
                      have HY := Lib.hid hy
                      have y1 : (j : Int) < (n : Int) := by omega
                      have y2 : j < n := by omega
                      clear hj hy
                      by_cases hEn : E < n
                      · obtain ⟨x, hx1, hx5, c6⟩ := hEx.out hEn
                        have HX1 := Lib.hid hx1
                        clear hx1 hx5
                        go_wp2
                        all_goals go_meet
                        all_goals (refine ⟨?_, rfl⟩; congr 1; rw [HY.out, HX1.out]; clear HY HX1 HJ HO HI HE HCL hq5 hEx hB1 hB2; rw [Bool.eq_iff_iff]; simp [*])
                      · have hEn' : n ≤ E := by omega
                        have HX1 := Lib.hid (hB2.out hEn)
                        go_wp2
                        all_goals go_meet
                        all_goals (refine ⟨?_, rfl⟩; congr 1; rw [HY.out, HX1.out]; clear HY HX1 HJ HO HI HE HCL hq5 hEx hB1 hB2; rw [Bool.eq_iff_iff]; simp [*])
                    · have hk0' : k = 0 := by omega
                      have z1 : (k : Int) ≤ 0 := by omega
                      have HK := Lib.hid hk0'
                      clear hk0 hk0'
                      by_cases hEn : E < n
                      · obtain ⟨x, hx1, hx5, c6⟩ := hEx.out hEn
                        have HX1 := Lib.hid hx1
                        clear hx1 hx5
                        go_wp2
                        all_goals go_meet
                        all_goals (refine ⟨?_, rfl⟩; congr 1; rw [HX1.out, HK.out]; clear HX1 HJ HO HI HE HCL hq5 hEx hB1 hB2; rw [Bool.eq_iff_iff]; simp [*])
                      · have hEn' : n ≤ E := by omega
                        have HX1 := Lib.hid (hB2.out hEn)
                        go_wp2
                        all_goals go_meet
                        all_goals (refine ⟨?_, rfl⟩; congr 1; rw [HX1.out, HK.out]; clear HX1 HJ HO HI HE HCL hq5 hEx hB1 hB2; rw [Bool.eq_iff_iff]; simp [*])
                  case rest =>
                    obtain ⟨rfl, hwc⟩ := hcut
                    subst hwc
                    go_upto_if 110 with (fail)
                    go_cut [7] (fun s wx => s = .int .u8 (toOf cur k E) ∧ wx = wc)
                    case first =>
                      have ht : toOf cur k E = if (0 < k ∧ cur[k - 1]? = some 3) ∨ cur[E]? = some 3 then 3 else 13 := rfl
                      have HTO := Lib.hid ht
                      clear ht
                      by_cases hc : (0 < k ∧ cur[k - 1]? = some 3) ∨ cur[E]? = some 3
                      · rw [decide_eq_true hc]
                        go_wp2
                        go_meet
                        exact ⟨by rw [HTO.out, if_pos hc], rfl⟩
                      · rw [decide_eq_false hc]
                        go_wp2
                        go_meet
                        exact ⟨by rw [HTO.out, if_neg hc], rfl⟩
                    case rest =>
                      obtain ⟨rfl, hwc⟩ := hcut
                      subst hwc
                      generalize toOf cur k E = t at *
                      have hO := HO.out
                      clear HO hq5 hEx HJ c2
                      go_wp2
                      go_loopw [5] (fun i wr => ∃ e q : Nat, q ≤ m ∧ e = k + q ∧ i = .int .i64 e ∧ wr.ownsRow base 26 1 (.slice (some ⟨g, 0, none⟩) n c) n (ints .u8 (setN cur k t q)) ∧ Below base w wr)
                        (fun i _ => E - (intOf i).toNat)
                      case atStart => exact ⟨k, 0, Nat.zero_le _, rfl, rfl, hO, hb⟩
                      case round =>
                        clear hO hb
                        obtain ⟨e, q, hqm, he, rfl, hO, hb⟩ := hrel
                        have hE' := HE.out
                        by_cases hqE : q < m
                        · have he1 : e < E := by omega
                          have he2 : e < n := by omega
                          have he3 : (e : Int) < (E : Int) := by omega
                          obtain ⟨u0, hu0⟩ : ∃ u, (setN cur k t q)[e]? = some u := ⟨_, List.getElem?_eq_getElem (by rw [setN_len, HCL.out]; exact he2)⟩
                          have hco := (hO.cellAt e (by omega)).trans (show _ = some (Value.int .u8 u0) from by simp [ints, hu0])
                          have hfo := hO.frozenAt e
                          have hst := (hO.stored e (.int .u8 t)).1
                          have hset : (setN cur k t q).set e t = setN cur k t (q + 1) := by rw [setN, ← he]
                          rw [ints_set, hset] at hst
                          have hb' := hb.setCell (p := ⟨g, e, none⟩) hg1 (.int .u8 t)
                          have HE2 := Lib.hid he
                          clear he hset hu0 hO hE'
                          go_wp2
                          go_roundw
                          case rel => exact ⟨e + 1, q + 1, by omega, by have := HE2.out; omega, by go_num, hst, hb'⟩
                          case measure => simp [intOf]; omega
                        · obtain rfl : q = m := by omega
                          obtain rfl : e = E := by omega
                          have he3 : (e : Int) ≤ (e : Int) := Int.le_refl _
                          have HI2 := Lib.hid HI.out
                          have HO2 := Lib.hid hO
                          clear hO he hE' HI HE
                          go_wp2
                          go_roundw
                          case rel => exact ⟨e, _, by omega, by go_num, HI2.out, HO2.out, hb⟩
                          case measure => simp [intOf]; omega
                · have hEn' : n ≤ E := by omega
                  go_upto_region 15 with (fail)
                  go_cut [110] (fun s wx => s = .bool (decide ((0 < k ∧ cur[k - 1]? = some 3) ∨ cur[E]? = some 3)) ∧ wx = wr)
                  case first =>
                    have hB1 : Hid (0 < k → ∃ j y, k = j + 1 ∧ cur[k - 1]? = some y ∧ wr.cell? ⟨g, j, none⟩ = some (.int .u8 y)) := fun h => by
                      obtain ⟨j, y, h1, h2, h3⟩ := HJ.out h
                      exact ⟨j, y, h1, by rw [show k - 1 = j from by omega]; exact h2, h3⟩
                    have hB2 : Hid (¬ E < n → cur[E]? = none) := fun h => List.getElem?_eq_none (by rw [HCL.out]; omega)
                    by_cases hk0 : 0 < k
                    · obtain ⟨j, y, hj, hy, cj⟩ := hB1.out hk0
                      have x1 : (k : Int) - 1 = (j : Int) := by omega
                      have HY := Lib.hid hy
                      have y1 : (j : Int) < (n : Int) := by omega
                      have y2 : j < n := by omega
                      clear hj hy
                      by_cases hEn : E < n
                      · obtain ⟨x, hx1, hx5, c6⟩ := hEx.out hEn
                        have HX1 := Lib.hid hx1
                        clear hx1 hx5
                        go_wp2
                        all_goals go_meet
                        all_goals (refine ⟨?_, rfl⟩; congr 1; rw [HY.out, HX1.out]; clear HY HX1 HJ HO HI HE HCL hq5 hEx hB1 hB2; rw [Bool.eq_iff_iff]; simp [*])
                      · have hEn' : n ≤ E := by omega
                        have HX1 := Lib.hid (hB2.out hEn)
                        go_wp2
                        all_goals go_meet
                        all_goals (refine ⟨?_, rfl⟩; congr 1; rw [HY.out, HX1.out]; clear HY HX1 HJ HO HI HE HCL hq5 hEx hB1 hB2; rw [Bool.eq_iff_iff]; simp [*])
                    · have hk0' : k = 0 := by omega
                      have z1 : (k : Int) ≤ 0 := by omega
                      have HK := Lib.hid hk0'
                      clear hk0 hk0'
                      by_cases hEn : E < n
                      · obtain ⟨x, hx1, hx5, c6⟩ := hEx.out hEn
                        have HX1 := Lib.hid hx1
                        clear hx1 hx5
                        go_wp2
                        all_goals go_meet
                        all_goals (refine ⟨?_, rfl⟩; congr 1; rw [HX1.out, HK.out]; clear HX1 HJ HO HI HE HCL hq5 hEx hB1 hB2; rw [Bool.eq_iff_iff]; simp [*])
                      · have hEn' : n ≤ E := by omega
                        have HX1 := Lib.hid (hB2.out hEn)
                        go_wp2
                        all_goals go_meet
                        all_goals (refine ⟨?_, rfl⟩; congr 1; rw [HX1.out, HK.out]; clear HX1 HJ HO HI HE HCL hq5 hEx hB1 hB2; rw [Bool.eq_iff_iff]; simp [*])
                  case rest =>
                    obtain ⟨rfl, hwc⟩ := hcut
                    subst hwc
                    go_upto_if 110 with (fail)
                    go_cut [7] (fun s wx => s = .int .u8 (toOf cur k E) ∧ wx = wc)
                    case first =>
                      have ht : toOf cur k E = if (0 < k ∧ cur[k - 1]? = some 3) ∨ cur[E]? = some 3 then 3 else 13 := rfl
                      have HTO := Lib.hid ht
                      clear ht
                      by_cases hc : (0 < k ∧ cur[k - 1]? = some 3) ∨ cur[E]? = some 3
                      · rw [decide_eq_true hc]
                        go_wp2
                        go_meet
                        exact ⟨by rw [HTO.out, if_pos hc], rfl⟩
                      · rw [decide_eq_false hc]
                        go_wp2
                        go_meet
                        exact ⟨by rw [HTO.out, if_neg hc], rfl⟩
                    case rest =>
                      obtain ⟨rfl, hwc⟩ := hcut
                      subst hwc
                      generalize toOf cur k E = t at *
                      have hO := HO.out
                      clear HO hq5 hEx HJ c2
                      go_wp2
                      go_loopw [5] (fun i wr => ∃ e q : Nat, q ≤ m ∧ e = k + q ∧ i = .int .i64 e ∧ wr.ownsRow base 26 1 (.slice (some ⟨g, 0, none⟩) n c) n (ints .u8 (setN cur k t q)) ∧ Below base w wr)
                        (fun i _ => E - (intOf i).toNat)
                      case atStart => exact ⟨k, 0, Nat.zero_le _, rfl, rfl, hO, hb⟩
                      case round =>
                        clear hO hb
                        obtain ⟨e, q, hqm, he, rfl, hO, hb⟩ := hrel
                        have hE' := HE.out
                        by_cases hqE : q < m
                        · have he1 : e < E := by omega
                          have he2 : e < n := by omega
                          have he3 : (e : Int) < (E : Int) := by omega
                          obtain ⟨u0, hu0⟩ : ∃ u, (setN cur k t q)[e]? = some u := ⟨_, List.getElem?_eq_getElem (by rw [setN_len, HCL.out]; exact he2)⟩
                          have hco := (hO.cellAt e (by omega)).trans (show _ = some (Value.int .u8 u0) from by simp [ints, hu0])
                          have hfo := hO.frozenAt e
                          have hst := (hO.stored e (.int .u8 t)).1
                          have hset : (setN cur k t q).set e t = setN cur k t (q + 1) := by rw [setN, ← he]
                          rw [ints_set, hset] at hst
                          have hb' := hb.setCell (p := ⟨g, e, none⟩) hg1 (.int .u8 t)
                          have HE2 := Lib.hid he
                          clear he hset hu0 hO hE'
                          go_wp2
                          go_roundw
                          case rel => exact ⟨e + 1, q + 1, by omega, by have := HE2.out; omega, by go_num, hst, hb'⟩
                          case measure => simp [intOf]; omega
                        · obtain rfl : q = m := by omega
                          obtain rfl : e = E := by omega
                          have he3 : (e : Int) ≤ (e : Int) := Int.le_refl _
                          have HI2 := Lib.hid HI.out
                          have HO2 := Lib.hid hO
                          clear hO he hE' HI HE
                          go_wp2
                          go_roundw
                          case rel => exact ⟨e, _, by omega, by go_num, HI2.out, HO2.out, hb⟩
                          case measure => simp [intOf]; omega
          · have h5' : (x != 5) = true := by simpa using h5
            have HI := Lib.hid (hne h5)
            have HO := Lib.hid hown
            clear hne heq hI e1 hown h5
            go_wp2
            go_roundw
            case rel => exact ⟨k + 1, _, by omega, by go_num, HI.out, HO.out, hb⟩
            case measure => simp [intOf]; omega
        · obtain rfl : n = k := by omega
          have he := inv2_end hI (by rw [HL2.out]; omega)
          subst he
          clear hI
          go_wp2
          obtain ⟨l2, hl2⟩ : ∃ l2, etL (-1) l = l2 := ⟨_, rfl⟩
          rw [hl2] at hown
          have HL3 := Lib.hid (show l2.length = n by simpa using hown.1)
          have HW2 := Lib.hid hl2
          clear hl2
          go_loopw [124] (fun i wr => ∃ (k : Nat), k ≤ n ∧ i = .int .i64 k ∧ wr.ownsRow base 26 1 (.slice A n c) n (ints .u8 (map6 (l2.take k) ++ l2.drop k)) ∧ Below base w wr)
            (fun i _ => n - (intOf i).toNat)
          case atStart => exact ⟨0, Nat.zero_le _, rfl, by simpa [map6] using hown, hb⟩
          case round =>
            clear hown hb
            obtain ⟨k, hk, rfl, hown, hb⟩ := hrel
            by_cases hlt : k < n
            · have hkc : k < l2.length := by rw [HL3.out]; exact hlt
              obtain ⟨g, cap, hv, hg1, hg2⟩ := hown.form (by omega)
              injection hv with hA hnn hcc
              subst hA; subst hcc
              rw [List.drop_eq_getElem_cons hkc] at hown
              have hd : (map6 (l2.take k)).length = k := by simp [map6]; omega
              have ht : map6 (l2.take (k + 1)) = map6 (l2.take k) ++ [if l2[k] = 4 ∨ l2[k] = 7 then 13 else l2[k]] := by rw [take_succ_ l2 k hkc, map6, List.map_append]; rfl
              have HT := Lib.hid ht
              clear ht
              generalize l2[k] = x at *
              have hck := (hown.cellAt k (by omega)).trans (ints_row_at _ _ _ k hd)
              have hfk := hown.frozenAt k
              have hst := (hown.stored k (.int .u8 13)).1
              rw [ints_set, row_set _ _ _ _ k hd] at hst
              have HST := Lib.hid hst
              have HO := Lib.hid (show wr.ownsRow base 26 1 (.slice (some ⟨g, 0, none⟩) n c) n (ints .u8 (map6 (l2.take k) ++ [x] ++ l2.drop (k + 1))) from by simpa using hown)
              have HBL := Lib.hid (hb.setCell (p := ⟨g, k, none⟩) hg1 (.int .u8 13))
              clear hst hown hd
              go_wp2
              all_goals
                go_roundw
                case rel =>
                  first
                    | exact ⟨k + 1, by omega, by go_num, by rw [HT.out, if_pos (by simp_all)]; exact HST.out, HBL.out⟩
                    | exact ⟨k + 1, by omega, by go_num, by rw [HT.out, if_neg (by simp_all)]; exact HO.out, hb⟩
                case measure => simp [intOf]; omega
            · obtain rfl : n = k := by omega
              go_wp2
              go_end0
              rw [List.drop_eq_nil_of_le (by rw [HL3.out]; omega), List.take_of_length_le (by rw [HL3.out]; omega), List.append_nil, ← HW2.out, ← HW.out] at hown
              exact ⟨rfl, hown, hb⟩
end Go.Proofs.Ytbfglgbgchidgaa.wk
