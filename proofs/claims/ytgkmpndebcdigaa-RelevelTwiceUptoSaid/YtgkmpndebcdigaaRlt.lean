/-
  Layer 24: the walk of the statement RelevelTwice.
-/
import Derived.Test.YtgkmpndebcdigaaRlo
namespace Go.Proofs.Ytgkmpndebcdigaa
open Go.RowKit

theorem base_ne (zs : List Int) (b : Int) (h : b ∈ basesOf zs) (hz : ∀ z ∈ zs, 0 ≤ z ∧ z ≤ 255) : b ≠ -1 := by
  simp only [basesOf, List.mem_map] at h
  obtain ⟨z, hz', rfl⟩ := h
  have := hz z hz'
  omega

theorem relL_take_len (ls cs bs : List Int) (m : Nat) (h0 : m ≤ ls.length) (h1 : m ≤ cs.length) (h2 : m ≤ bs.length) : (relL (ls.take m) (cs.take m) (bs.take m)).length = m := by
  rw [relL_length _ _ _ (by simp; omega) (by simp; omega)]; simp; omega

theorem backL_zero (n : Nat) : 0 < n → backL (List.replicate n 0) = false := by
  intro h
  cases n with
  | zero => omega
  | succ n => rfl

/-- once more changes nothing -/
theorem relL_twice (ls cs bs : List Int) (h1 : cs.length = ls.length) (h2 : bs.length = ls.length) (hb : ∀ b ∈ bs, b ≠ -1) : relL (relL ls cs bs) cs bs = relL ls cs bs := by
  have hl := relL_length ls cs bs h1 h2
  apply List.ext_getElem?
  intro k
  by_cases hk : k < ls.length
  · have g1 := relL_get ls cs bs h1 h2 k hk
    have g2 := relL_get (relL ls cs bs) cs bs (by omega) (by omega) k (by omega)
    have e : (relL ls cs bs)[k] = (if backL (cs.drop k) && ls[k] != -1 then bs[k] else ls[k]) := by
      rw [List.getElem?_eq_getElem (by omega)] at g1
      exact Option.some.inj g1
    rw [g2, e, g1]
    have hbk := hb bs[k] (List.getElem_mem _)
    congr 1
    generalize backL (cs.drop k) = q
    cases q <;> simp_all
  · rw [List.getElem?_eq_none (by rw [relL_length _ _ _ (by omega) (by omega)]; omega), List.getElem?_eq_none (by omega)]

theorem relL_plain (ls bs : List Int) (n : Nat) (h1 : n = ls.length) (h2 : bs.length = ls.length) : relL ls (List.replicate n 0) bs = ls := by
  subst h1
  apply List.ext_getElem?
  intro k
  by_cases hk : k < ls.length
  · rw [relL_get ls _ bs (by simp) h2 k hk, List.drop_replicate, backL_zero _ (by omega), List.getElem?_eq_getElem hk]
    simp
  · rw [List.getElem?_eq_none (by rw [relL_length _ _ _ (by simp) h2]; omega), List.getElem?_eq_none (by omega)]

set_option maxRecDepth 100000 in
set_option maxHeartbeats 4000000 in
theorem twice_law (A : Option Addr) (n c : Nat) (zs : List Int) (A' : Option Addr) (n' c' : Nat) (zs' : List Int) (A'' : Option Addr) (n'' c'' : Nat) (zs'' : List Int) (w : World)
    (hr : Rd w 1 A n (ints .u8 zs)) (hz : ∀ z ∈ zs, 0 ≤ z ∧ z ≤ 255) (hr' : Rd w 1 A' n' (ints .u8 zs')) (hz' : ∀ z ∈ zs', 0 ≤ z ∧ z ≤ 255)
    (hr'' : Rd w 1 A'' n'' (ints .u8 zs'')) (hz'' : ∀ z ∈ zs'', 0 ≤ z ∧ z ≤ 255) (hn : n + n' + n'' ≤ 1048576) :
    Calls Try.prog 8 #[.slice A n c, .slice A' n' c', .slice A'' n'' c''] w fun e w' => e = .returned (.bool true) ∧ Below w.heap.size w w' := by
  obtain ⟨i0, hi, hz0, hz1, hz2⟩ := info_parts info29
  go_enter Try.func8, Try.ntmps8
  go_wp2_with fail
  refine (awake24_any _).mono ?_
  rintro e w1 ⟨rfl, hb1⟩
  go_wp2_with fail
  refine (levels_any _ _ _ zs _ (hr.same hb1) (by omega) hz).mono ?_
  rintro e w2 ⟨v2, rfl, hown2, hb2⟩
  have hB2 := hb1.trans (hb2.mono hb1.size)
  go_wp2_with fail
  refine (classes_any _ _ _ zs' _ (hr'.same hB2) (by omega) hz').mono ?_
  rintro e w3 ⟨v3, rfl, hown3, hb3⟩
  have hB3 := hB2.trans (hb3.mono hB2.size)
  go_wp2_with fail
  refine (bases_any _ _ _ zs'' _ (hr''.same hB3) (by omega) hz'').mono ?_
  rintro e w4 ⟨v4, rfl, hown4, hb4⟩
  have hB4 := hB3.trans (hb4.mono hB3.size)
  obtain ⟨A2, c2, rfl, hc2, hl2⟩ := own_slice hown2
  obtain ⟨A3, c3, rfl, hc3, hl3⟩ := own_slice hown3
  obtain ⟨A4, c4, rfl, hc4, hl4⟩ := own_slice hown4
  replace hl2 := (hl2.same hb3).same hb4
  replace hl3 := hl3.same hb4
  have HL2 := Lib.hid (show (levels zs).length = n by simpa [ints] using hl2.1)
  have HL3 := Lib.hid (show (classes zs').length = n' by simpa [ints] using hl3.1)
  have HL4 := Lib.hid (show (basesOf zs'').length = n'' by simpa [ints] using hl4.1)
  have HB := Lib.hid (fun b hb => base_ne zs'' b hb hz'')
  clear hown2 hown3 hown4 hb1 hb2 hb3 hb4 hB2 hB3 hr hr' hr''
  generalize classes zs' = cs at *
  generalize basesOf zs'' = bs at *
  generalize levels zs = ls at *
  go_upto_region 4 with (fail)
  go_cut [10] (fun s wx => ∃ m : Nat, s = .int .i64 m ∧ m ≤ n ∧ m ≤ n' ∧ m ≤ n'' ∧ wx = w4)
  case first =>
    go_wp2
    all_goals (go_meet; exact ⟨_, rfl, by omega, by omega, by omega, rfl⟩)
  case rest =>
    obtain ⟨m, rfl, hm0, hm1, hm2, rfl⟩ := hcut
    have hk2 : m ≤ c2 := Nat.le_trans hm0 hc2
    have hk3 : m ≤ c3 := Nat.le_trans hm1 hc3
    have hk4 : m ≤ c4 := Nat.le_trans hm2 hc4
    have K0 := Lib.hid (show m ≤ ls.length ∧ m ≤ cs.length ∧ m ≤ bs.length by rw [HL2.out, HL3.out, HL4.out]; exact ⟨hm0, hm1, hm2⟩)
    go_wp2
    go_still_tail 9, (by kernel_rfl)
    change wpList _ _ _ _ _ wc.drew
    go_wp2_with fail
    refine (rel_any _ _ _ _ _ _ _ _ _ (ls.take m) (cs.take m) (bs.take m) _ (hl2.take hm0).drew (hl3.take hm1).drew (hl4.take hm2).drew (by omega) (by omega) (by omega)).mono ?_
    rintro e w5 ⟨v5, rfl, hown5, hb5⟩
    obtain ⟨A5, c5, rfl, hc5, hl5⟩ := own_slice hown5
    replace hb5 : Below wc.heap.size wc w5 := (Below.refl _ _).drew.trans hb5
    replace hl2 := hl2.same hb5
    replace hl3 := hl3.same hb5
    replace hl4 := hl4.same hb5
    have hB5 := hB4.trans (hb5.mono hB4.size)
    rw [relOf, if_pos ⟨by have := K0.out; simp; omega, by have := K0.out; simp; omega⟩] at hl5
    clear hown5 hb5 hB4
    go_wp2
    go_still_tail 7, (by kernel_rfl)
    change wpList _ _ _ _ _ w5.drew
    go_wp2_with fail
    refine (rel_any _ _ _ _ _ _ _ _ _ (relL (ls.take m) (cs.take m) (bs.take m)) (cs.take m) (bs.take m) _ hl5.drew (hl3.take hm1).drew (hl4.take hm2).drew (by omega) (by omega) (by omega)).mono ?_
    rintro e w6 ⟨v6, rfl, hown6, hb6⟩
    obtain ⟨A6, c6, rfl, hc6, hl6⟩ := own_slice hown6
    replace hb6 : Below w5.heap.size w5 w6 := (Below.refl _ _).drew.trans hb6
    replace hl2 := hl2.same hb6
    replace hl4 := hl4.same hb6
    replace hl5 := hl5.same hb6
    have hB6 := hB5.trans (hb6.mono hB5.size)
    rw [relOf, if_pos ⟨by have := K0.out; rw [relL_take_len _ _ _ _ this.1 this.2.1 this.2.2]; simp; omega, by have := K0.out; rw [relL_take_len _ _ _ _ this.1 this.2.1 this.2.2]; simp; omega⟩,
      relL_twice _ _ _ (by have := K0.out; simp; omega) (by have := K0.out; simp; omega) (fun b hb => HB.out b (List.mem_of_mem_take hb))] at hl6
    clear hown6 hb6 hB5 hl3
    have hmk := fun W => make_one (P := Try.prog) 24 29 i0 (.int .u8 0) 1 Try.underlying24 hi hz0 hz1 hz2 m (by omega) (by omega) W
    have hl7 := Rd.of_own (made_own w6 29 .u8 m (by omega) (Nat.le_refl _))
    replace hl2 := hl2.alloc (.cells (madeCells #[Value.int .u8 0] m) 29)
    replace hl4 := hl4.alloc (.cells (madeCells #[Value.int .u8 0] m) 29)
    replace hl5 := hl5.alloc (.cells (madeCells #[Value.int .u8 0] m) 29)
    replace hl6 := hl6.alloc (.cells (madeCells #[Value.int .u8 0] m) 29)
    have hB7 := hB6.alloc hB6.size (.cells (madeCells #[Value.int .u8 0] m) 29)
    go_wp2
    clear hmk
    generalize (w6.alloc (.cells (madeCells #[Value.int .u8 0] m) 29)) = w7 at *
    go_still_tail 7, (by kernel_rfl)
    change wpList _ _ _ _ _ w7.drew
    go_wp2_with fail
    refine (rel_any _ _ _ _ _ _ _ _ _ (ls.take m) (List.replicate m 0) (bs.take m) _ (hl2.take hm0).drew hl7.drew (hl4.take hm2).drew (by omega) (by omega) (by omega)).mono ?_
    rintro e w8 ⟨v8, rfl, hown8, hb8⟩
    obtain ⟨A8, c8, rfl, hc8, hl8⟩ := own_slice hown8
    replace hb8 : Below w7.heap.size w7 w8 := (Below.refl _ _).drew.trans hb8
    replace hl2 := hl2.same hb8
    replace hl5 := hl5.same hb8
    replace hl6 := hl6.same hb8
    have hB8 := hB7.trans (hb8.mono hB7.size)
    rw [relOf, if_pos ⟨by have := K0.out; simp; omega, by have := K0.out; simp; omega⟩, relL_plain _ _ _ (by have := K0.out; simp; omega) (by have := K0.out; simp; omega)] at hl8
    clear hown8 hb8 hB7 hl4 hl7
    go_wp2
    have HLR := Lib.hid (relL_take_len ls cs bs m K0.out.1 K0.out.2.1 K0.out.2.2)
    generalize relL (ls.take m) (cs.take m) (bs.take m) = rs at *
    go_loopw [15] (fun i wr => ∃ j : Nat, j ≤ m ∧ i = .int .i64 j ∧ Below w8.heap.size w8 wr)
      (fun i _ => m - (intOf i).toNat)
    case atStart => exact ⟨0, Nat.zero_le _, rfl, Below.refl _ _⟩
    case round =>
      obtain ⟨j, hj, rfl, hb⟩ := hrel
      by_cases hlt : j < m
      · have hj2 : j < ls.length := by rw [HL2.out]; omega
        have hjr : j < rs.length := by rw [HLR.out]; omega
        have hjt : j < (ls.take m).length := by simp; omega
        obtain ⟨ad8, rfl, hc8⟩ := (hl8.same hb).2 (by omega)
        obtain ⟨ad6, rfl, hc6⟩ := (hl6.same hb).2 (by omega)
        obtain ⟨ad5, rfl, hc5⟩ := (hl5.same hb).2 (by omega)
        obtain ⟨ad2, rfl, hc2'⟩ := (hl2.same hb).2 (by omega)
        have e8 := hc8 j _ (ints_at hjt)
        have e2 := hc2' j _ (ints_at hj2)
        have e5 := hc5 j _ (ints_at hjr)
        have e6 := hc6 j _ (ints_at hjr)
        rw [List.getElem_take] at e8
        clear hc8 hc6 hc5 hc2' hl8 hl6 hl5 hl2
        generalize ls[j] = l at *
        generalize rs[j] = b at *
        go_wp2
        go_quiet (fail)
        go_wp2
        go_roundw
        case rel => exact ⟨j + 1, by omega, by go_num, by first | exact hb | exact hb.drew | exact drawn hb _⟩
        case measure => simp [intOf]; omega
      · go_wp2
        go_ret
        exact ⟨rfl, hB8.trans (hb.mono hB8.size)⟩
end Go.Proofs.Ytgkmpndebcdigaa
