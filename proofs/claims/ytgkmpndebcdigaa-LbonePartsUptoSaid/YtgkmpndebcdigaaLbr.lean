/-
  Layer 19: the walk of the statement LboneParts.
-/
import Derived.Test.YtgkmpndebcdigaaLbm
namespace Go.Proofs.Ytgkmpndebcdigaa.lb
open Go.RowKit

theorem shift_at {us : List U} {d k : Nat} {u : U} (h : us[k]? = some u) : (us.map (U.shift d))[k]? = some (U.shift d u) := by simp [h]

set_option maxRecDepth 100000 in
set_option maxHeartbeats 8000000 in
theorem parts_law (A : Option Addr) (n c : Nat) (zs : List Int) (A' : Option Addr) (n' c' : Nat) (zs' : List Int) (w : World)
    (hr : Rd w 1 A n (ints .u8 zs)) (hz : ∀ z ∈ zs, 0 ≤ z ∧ z ≤ 255) (hr' : Rd w 1 A' n' (ints .u8 zs')) (hz' : ∀ z ∈ zs', 0 ≤ z ∧ z ≤ 255) (hn : n + n' ≤ 1048576) :
    Calls Try.prog 13 #[.slice A n c, .slice A' n' c'] w fun e w' => e = .returned (.bool true) ∧ Below w.heap.size w w' := by
  obtain ⟨i0, hi, hz0, hz1, hz2⟩ := info_parts info42
  go_enter Try.func13, Try.ntmps13
  go_wp2_with fail
  refine (awake19_any _).mono ?_
  rintro e w1 ⟨rfl, hb1⟩
  go_wp2_with fail
  refine (classes43_any _ _ _ zs _ (hr.same hb1) (by omega) hz).mono ?_
  rintro e w2 ⟨v2, rfl, hown2, hb2⟩
  have HL := Lib.hid (show (classes43 zs).length = n by simpa [ints] using hown2.1)
  generalize classes43 zs = ca at *
  clear hr
  go_wp2_with (first
    | (at_builtin; refine wpList_append_one rfl (.tmp 17) (.tmp 18) 38 rfl w1.heap.size w1 w1.heap.size 42 i0 (.int .u8 0) 1 Try.underlying38 hi hz0 hz1 hz2 rfl _ _ _ rfl hown2 _ _ rfl _ rfl (by simp) hb2 hb2.size (Nat.le_refl _) hb2.size (by omega) (by omega) ?_; intro v3 w3 hown3 hb3 hg3 hat3; clear hg3 hat3 hown2 hb2)
    | fail)
  have hr3 : Rd w3 1 A' n' (ints .u8 zs') := hr'.same (hb1.trans (hb3.mono hb1.size))
  refine (classes43_any _ _ _ zs' _ hr3 (by omega) hz').mono ?_
  rintro e w4 ⟨v4, rfl, hown4, hb4⟩
  have HL' := Lib.hid (show (classes43 zs').length = n' by simpa [ints] using hown4.1)
  generalize classes43 zs' = cb at *
  have ha4 : w4.ownsRow w1.heap.size 42 1 v3 (n + 1) (ints .u8 (ca ++ [9])) := by
    have := own_block hown3 fun g hg => hb4.block g (hown3.lt g hg).2
    simpa [ints] using this
  have hB4 := hb3.trans (hb4.mono hb3.size)
  obtain ⟨A3, c3, rfl, _, hra⟩ := own_slice ha4
  obtain ⟨A4, c4, rfl, _, hrb⟩ := own_slice hown4
  clear hown3 hown4 ha4 hb3 hb4 hr3
  go_wp2_with (first
    | (at_builtin; refine wpList_append_rd rfl (.const (.slice none 0 0)) (.tmp 22) 38 rfl w4.heap.size w4 w4.heap.size 42 i0 (.int .u8 0) 1 1 Try.underlying38 hi hz0 hz1 hz2 rfl (by decide) _ _ _ rfl (World.ownsRow_nil _ _ _ _) _ _ _ _ rfl hra ints_one (Below.refl _ _) (Nat.le_refl _) (Nat.le_refl _) (Nat.le_refl _) (by omega) (by omega) ?_; intro v5 w5 hown5 hb5 u1 u2; clear u1 u2; have hrb5 := hrb.same hb5)
    | (at_builtin; refine wpList_append_rd rfl (.tmp 23) (.tmp 24) 38 rfl w4.heap.size w4 w4.heap.size 42 i0 (.int .u8 0) 1 1 Try.underlying38 hi hz0 hz1 hz2 rfl (by decide) _ _ _ rfl hown5 _ _ _ _ rfl hrb5 ints_one hb5 hb5.size (Nat.le_refl _) hb5.size (by omega) (by omega) ?_; intro v6 w6 hown6 hb6 u1 u2; clear u1 u2)
    | fail)
  replace hown6 : w6.ownsRow w4.heap.size 42 1 v6 (n + 1 + n') (ints .u8 (ca ++ [9] ++ cb)) := by simpa [ints] using hown6
  obtain ⟨A6, c6, rfl, _, hrc⟩ := own_slice hown6
  replace hra := hra.same hb6
  replace hrb := hrb.same hb6
  have hB6 := hB4.trans (hb6.mono hB4.size)
  clear hown5 hown6 hb5 hb6 hrb5 hB4
  have HSP := Lib.hid (units_space ca cb)
  have hua : (units (ca ++ [9]) []).length ≤ n + 1 := by
    have h := unitsTo_length (ca ++ [9]) [] (n + 1)
    rw [units, List.length_append, List.length_singleton, HL.out]; exact h
  have hub : (units cb []).length ≤ n' := by
    have h := unitsTo_length cb [] n'
    rw [units, HL'.out]; exact h
  rw [HL.out] at HSP
  refine (units_any _ _ _ _ _ _ (ca ++ [9]) [] _ hra Rd.nil_ (by omega)).mono ?_
  rintro e w7 ⟨v7, rfl, hown7, hb7⟩
  go_wp2_with fail
  refine (units_any _ _ _ _ _ _ cb [] _ (hrb.same hb7) Rd.nil_ (by omega)).mono ?_
  rintro e w8 ⟨v8, rfl, hown8, hb8⟩
  go_wp2_with fail
  refine (units_any _ _ _ _ _ _ (ca ++ [9] ++ cb) [] _ ((hrc.same hb7).same hb8) Rd.nil_ (by omega)).mono ?_
  rintro e w9 ⟨v9, rfl, hown9, hb9⟩
  rw [HSP.out] at hown9
  clear HSP
  generalize units (ca ++ [9]) [] = xs at *
  have hbd := Lib.hid (units_are cb [] n').each
  rw [show units cb [] = unitsTo cb [] n' from by rw [units, HL'.out]] at *
  generalize unitsTo cb [] n' = ys at *
  rw [List.length_append, List.length_map] at hown9
  replace hown7 := own_block (own_block hown7 fun g hg => hb8.block g (hown7.lt g hg).2) fun g hg => hb9.block g (Nat.lt_of_lt_of_le (hown7.lt g hg).2 hb8.size)
  replace hown8 := own_block hown8 fun g hg => hb9.block g (hown8.lt g hg).2
  have hB9 := hB6.trans (((hb7.trans (hb8.mono hb7.size)).trans (hb9.mono (Nat.le_trans hb7.size hb8.size))).mono hB6.size)
  obtain ⟨A7, c7, rfl, _, _⟩ := own_slice hown7
  obtain ⟨A8, c8, rfl, _, _⟩ := own_slice hown8
  obtain ⟨A9, c9, rfl, _, _⟩ := own_slice hown9
  clear hra hrb hrc hb7 hb8 hb9 hB6
  generalize hX : xs.length = X at *
  generalize hY : ys.length = Y at *
  have HX := Lib.hid hX
  have HY := Lib.hid hY
  clear hX hY
  go_wp2
  go_loopw [42] (fun i wr => ∃ k : Nat, k ≤ X + Y ∧ i = .int .i64 k ∧ Below w9.heap.size w9 wr)
    (fun i _ => X + Y - (intOf i).toNat)
  case atStart => exact ⟨0, Nat.zero_le _, rfl, Below.refl _ _⟩
  case round =>
    obtain ⟨k, hk, rfl, hb⟩ := hrel
    have h7 := own_block hown7 fun g hg => hb.block g (hown7.lt g hg).2
    have h8 := own_block hown8 fun g hg => hb.block g (hown8.lt g hg).2
    have h9 := own_block hown9 fun g hg => hb.block g (hown9.lt g hg).2
    by_cases hlt : k < X + Y
    · obtain ⟨g9, d9, hv9, hg9⟩ := own_some h9 (by omega)
      injection hv9 with hA9 hn9 hc9
      subst hA9; subst hc9
      by_cases hkX : k < X
      · obtain ⟨g7, d7, hv7, hg7⟩ := own_some h7 (by omega)
        injection hv7 with hA7 hn7 hc7
        subst hA7; subst hc7
        have hxk : k < xs.length := by rw [HX.out]; exact hkX
        have hx : xs[k]? = some xs[k] := List.getElem?_eq_getElem hxk
        obtain ⟨p0, p1, p2, p3⟩ := unit_cells h7 (u := xs[k]) hx hkX
        obtain ⟨q0, q1, q2, q3⟩ := unit_cells h9 (k := k) (u := xs[k]) (by rw [List.getElem?_append_left hxk]; exact hx) hlt
        have hd : decide (X ≤ k) = false := by simp; omega
        have ho := own_size h7
        clear h7 h8 h9 hown7 hown8 hown9 hx
        generalize xs[k] = u at *
        go_upto_region 11 with (fail)
        have hlit := World.ownsRow_lit (base := wr.heap.size) (e := 44) (size := 4) wr #[.int .i64 (u.frm : Int), .int .i64 (u.to : Int), .int .u8 u.cls, .bool u.joined] 1 (Nat.le_refl _) (by unfold maxLen; omega) rfl
        have f0 := hlit.cellAt 0 (by omega)
        have f1 := hlit.cellAt 1 (by omega)
        have f2 := hlit.cellAt 2 (by omega)
        have f3 := hlit.cellAt 3 (by omega)
        simp only [List.getElem?_cons_succ, List.getElem?_cons_zero] at f0 f1 f2 f3
        have al := fun (q : Addr) (v : Value) (h : wr.cell? q = some v) => (World.cell?_alloc_lt wr (.cells #[.int .i64 (u.frm : Int), .int .i64 (u.to : Int), .int .u8 u.cls, .bool u.joined] 44) _ (World.block_lt_of_cell? wr _ h)).trans h
        replace p0 := al _ _ p0
        replace p1 := al _ _ p1
        replace p2 := al _ _ p2
        replace p3 := al _ _ p3
        have hb' := hb.alloc hb.size (.cells #[.int .i64 (u.frm : Int), .int .i64 (u.to : Int), .int .u8 u.cls, .bool u.joined] 44)
        clear q0 q1 q2 q3 hlit hb ho al
        generalize wr.alloc (.cells #[.int .i64 (u.frm : Int), .int .i64 (u.to : Int), .int .u8 u.cls, .bool u.joined] 44) = W5 at *
        generalize wr.heap.size = b0 at *
        go_wp2
        go_quiet (fail)
        go_wp2
        go_roundw
        case rel => exact ⟨k + 1, by omega, by go_num, drawn hb' _⟩
        case measure => simp [intOf]; omega
      · obtain ⟨j, rfl⟩ : ∃ j, k = X + j := ⟨k - X, by omega⟩
        have hjY : j < Y := by omega
        obtain ⟨g8, d8, hv8, hg8⟩ := own_some h8 (by omega)
        injection hv8 with hA8 hn8 hc8
        subst hA8; subst hc8
        have hyj : j < ys.length := by rw [HY.out]; exact hjY
        have hy : ys[j]? = some ys[j] := List.getElem?_eq_getElem hyj
        obtain ⟨p0, p1, p2, p3⟩ := unit_cells h8 (u := ys[j]) hy hjY
        obtain ⟨q0, q1, q2, q3⟩ := unit_cells h9 (k := X + j) (u := U.shift (n + 1) ys[j]) (by rw [List.getElem?_append_right (by rw [HX.out]; omega), HX.out, show X + j - X = j from by omega]; exact shift_at hy) hlt
        have hk1 := (hbd.out j ys[j] hy).2.lt
        have hk2 := (hbd.out j ys[j] hy).2.le
        have hd1 : decide ((X : Int) + (j : Int) < (X : Int)) = false := by simp; omega
        have hd2 : decide ((X : Int) ≤ (X : Int) + (j : Int)) = true := by simp; omega
        clear h7 h8 h9 hown7 hown8 hown9 hy hkX
        generalize ys[j] = u at *
        obtain ⟨frm, fin, cl, jo⟩ := u
        simp only [U.shift] at q0 q1 q2 q3 p0 p1 p2 p3 hk1 hk2
        have hd3 : decide (X + j < X) = false := by simp
        go_upto_region 11 with (fail)
        have hlit := World.ownsRow_lit (base := wr.heap.size) (e := 44) (size := 4) wr #[.int .i64 ((frm : Int) + ((n : Int) + 1)), .int .i64 ((fin : Int) + ((n : Int) + 1)), .int .u8 cl, .bool jo] 1 (Nat.le_refl _) (by unfold maxLen; omega) rfl
        have f0 := hlit.cellAt 0 (by omega)
        have f1 := hlit.cellAt 1 (by omega)
        have f2 := hlit.cellAt 2 (by omega)
        have f3 := hlit.cellAt 3 (by omega)
        simp only [List.getElem?_cons_succ, List.getElem?_cons_zero] at f0 f1 f2 f3
        have al := fun (q : Addr) (v : Value) (h : wr.cell? q = some v) => (World.cell?_alloc_lt wr (.cells #[.int .i64 ((frm : Int) + ((n : Int) + 1)), .int .i64 ((fin : Int) + ((n : Int) + 1)), .int .u8 cl, .bool jo] 44) _ (World.block_lt_of_cell? wr _ h)).trans h
        replace p0 := al _ _ p0
        replace p1 := al _ _ p1
        replace p2 := al _ _ p2
        replace p3 := al _ _ p3
        have hb' := hb.alloc hb.size (.cells #[.int .i64 ((frm : Int) + ((n : Int) + 1)), .int .i64 ((fin : Int) + ((n : Int) + 1)), .int .u8 cl, .bool jo] 44)
        clear q0 q1 q2 q3 hlit hb al
        generalize wr.alloc (.cells #[.int .i64 ((frm : Int) + ((n : Int) + 1)), .int .i64 ((fin : Int) + ((n : Int) + 1)), .int .u8 cl, .bool jo] 44) = W5 at *
        generalize wr.heap.size = b0 at *
        go_wp2
        go_quiet (fail)
        generalize hW6 : W5.drewN nq = W6
        have tr := fun (q : Addr) (v : Value) (h : W5.cell? q = some v) => (show W6.cell? q = some v from by rw [← hW6]; exact h)
        replace p0 := tr _ _ p0
        replace p1 := tr _ _ p1
        replace p2 := tr _ _ p2
        replace p3 := tr _ _ p3
        replace f0 := tr _ _ f0
        replace f1 := tr _ _ f1
        replace f2 := tr _ _ f2
        replace f3 := tr _ _ f3
        have hb6 : Below w9.heap.size w9 W6 := by rw [← hW6]; exact drawn hb' nq
        clear hW6 tr hb'
        go_upto_region 15 with (fail)
        have hlit := World.ownsRow_lit (base := W6.heap.size) (e := 44) (size := 4) W6 #[.int .i64 (frm : Int), .int .i64 (fin : Int), .int .u8 cl, .bool jo] 1 (Nat.le_refl _) (by unfold maxLen; omega) rfl
        have al := fun (q : Addr) (v : Value) (h : W6.cell? q = some v) => (World.cell?_alloc_lt W6 (.cells #[.int .i64 (frm : Int), .int .i64 (fin : Int), .int .u8 cl, .bool jo] 44) _ (World.block_lt_of_cell? W6 _ h)).trans h
        have hb0 := World.block_lt_of_cell? W6 _ f0
        replace f0 := al _ _ f0
        replace f1 := al _ _ f1
        replace f2 := al _ _ f2
        replace f3 := al _ _ f3
        have g0 := hlit.cellAt 0 (by omega)
        have g1 := hlit.cellAt 1 (by omega)
        have g2 := hlit.cellAt 2 (by omega)
        have g3 := hlit.cellAt 3 (by omega)
        have z0 := hlit.frozenAt 0
        have z1 := hlit.frozenAt 1
        simp only [List.getElem?_cons_succ, List.getElem?_cons_zero] at g0 g1 g2 g3
        have hb7 := hb6.alloc hb6.size (.cells #[.int .i64 (frm : Int), .int .i64 (fin : Int), .int .u8 cl, .bool jo] 44)
        have hs6 := hb6.size
        clear p0 p1 p2 p3 al hb6
        generalize W6.alloc (.cells #[.int .i64 (frm : Int), .int .i64 (fin : Int), .int .u8 cl, .bool jo] 44) = W7 at *
        generalize W6.heap.size = b1 at *
        have hne : b0 ≠ b1 := by simp only at hb0; omega
        have HLIT := Lib.hid hlit
        clear hlit
        have hcl2 := hb7.setCell (p := ⟨b1, 0, none⟩) hs6 (.int .i64 ((frm : Int) + ((n : Int) + 1)))
        have hcl3 := hcl2.setCell (p := ⟨b1, 1, none⟩) hs6 (.int .i64 ((fin : Int) + ((n : Int) + 1)))
        go_upto_region 16 with (fail)
        have hst := ((HLIT.out.stored 0 (.int .i64 ((frm : Int) + ((n : Int) + 1)))).1.stored 1 (.int .i64 ((fin : Int) + ((n : Int) + 1)))).1
        have s0 := hst.cellAt 0 (by omega)
        have s1 := hst.cellAt 1 (by omega)
        have s2 := hst.cellAt 2 (by omega)
        have s3 := hst.cellAt 3 (by omega)
        simp at s0 s1 s2 s3
        have oth := fun (q : Nat) => (World.cell?_setCell_other (W7.setCell ⟨b1, 0, none⟩ (.int .i64 ((frm : Int) + ((n : Int) + 1)))) ⟨b1, 1, none⟩ ⟨b0, q, none⟩ (.int .i64 ((fin : Int) + ((n : Int) + 1))) (by intro h; injection h with h; first | exact hne h | exact hne h.symm)).trans
          (World.cell?_setCell_other W7 ⟨b1, 0, none⟩ ⟨b0, q, none⟩ (.int .i64 ((frm : Int) + ((n : Int) + 1))) (by intro h; injection h with h; first | exact hne h | exact hne h.symm))
        replace f0 := (oth 0).trans f0
        replace f1 := (oth 1).trans f1
        replace f2 := (oth 2).trans f2
        replace f3 := (oth 3).trans f3
        clear HLIT hst oth g0 g1 g2 g3 z0 z1 hb7 hcl2
        generalize ((W7.setCell ⟨b1, 0, none⟩ (.int .i64 ((frm : Int) + ((n : Int) + 1)))).setCell ⟨b1, 1, none⟩ (.int .i64 ((fin : Int) + ((n : Int) + 1)))) = W8 at *
        go_wp2
        go_roundw
        case rel => exact ⟨X + j + 1, by omega, by go_num, hcl3⟩
        case measure => simp [intOf]; omega
    · go_wp2
      go_ret
      exact ⟨rfl, hb1.trans ((hB9.trans (hb.mono hB9.size)).mono hb1.size)⟩
end Go.Proofs.Ytgkmpndebcdigaa.lb
