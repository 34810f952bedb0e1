/-
  Layer 19: the walk of the statement LboneUnits.
-/
import Derived.Test.YtgkmpndebcdigaaLbp
import Derived.Test.YtgkmpndebcdigaaLba
import Derived.Deep.DeepCutAuto
namespace Go.Proofs.Ytgkmpndebcdigaa.lb
open Go.RowKit

set_option maxRecDepth 100000 in
set_option maxHeartbeats 1000000 in
/-- the statements' mark -/
theorem lmark_any (A : Option Addr) (n c : Nat) (A1 : Option Addr) (n1 c1 : Nat) (cs ws : List Int) (k : Nat) (w : World) (hr : Rd w 1 A n (ints .u8 cs)) (hr1 : Rd w 1 A1 n1 (ints .i64 ws)) (hk : k < n) :
    Calls Try.prog 28 #[.slice A n c, .slice A1 n1 c1, .int .i64 (k : Int)] w fun e w' => e = .returned (.bool (mark (seen cs ws k))) ∧ w = w' := by
  have HL := Lib.hid (show cs.length = n by simpa using hr.1)
  have HL1 := Lib.hid (show ws.length = n1 by simpa using hr1.1)
  have hkz : k < cs.length := by rw [HL.out]; exact hk
  obtain ⟨ad, rfl, hc⟩ := hr.cell_ (ints_at (K := .u8) hkz)
  have hsn : seen cs ws k = if cs[k] = 40 ∧ ws[k]? = some 0 then 3 else cs[k] := by
    rw [seen, List.getD_eq_getElem?_getD, List.getElem?_eq_getElem hkz]; rfl
  have HS := Lib.hid hsn
  clear hsn hr
  generalize cs[k] = x at *
  by_cases h40 : x = 40
  · subst h40
    rcases Nat.lt_or_ge k n1 with h1 | h1
    · have hkw : k < ws.length := by rw [HL1.out]; exact h1
      obtain ⟨ad1, rfl, hc1⟩ := hr1.cell_ (ints_at (K := .i64) hkw)
      have hw : ws[k]? = some ws[k] := List.getElem?_eq_getElem hkw
      rw [hw] at HS
      clear hr1 hw
      generalize ws[k] = y at *
      go_enter Try.func28, Try.ntmps28
      go_wp2
      all_goals go_ret
      all_goals (refine ⟨ret_bool ?_, rfl⟩; rw [HS.out]; by_cases hy : y = 0 <;> simp [hy, mark])
    · have hw : ws[k]? = none := List.getElem?_eq_none (by rw [HL1.out]; exact h1)
      rw [hw] at HS
      clear hr1 hw
      go_enter Try.func28, Try.ntmps28
      go_wp2
      all_goals go_ret
      all_goals (refine ⟨ret_bool ?_, rfl⟩; rw [HS.out]; simp [mark])
  · have hb : (x == 40) = false := by simpa using h40
    clear hr1
    go_enter Try.func28, Try.ntmps28
    go_wp2
    all_goals go_ret
    all_goals (refine ⟨ret_bool ?_, rfl⟩; rw [HS.out, if_neg (fun e => h40 e.1)]; simp_all [mark])

theorem lmark_is (A : Option Addr) (n c : Nat) (A1 : Option Addr) (n1 c1 : Nat) (cs ws : List Int) (k : Nat) (b : Bool) (w : World) (hr : Rd w 1 A n (ints .u8 cs)) (hr1 : Rd w 1 A1 n1 (ints .i64 ws)) (hk : k < n) (h : mark (seen cs ws k) = b) :
    Calls Try.prog 28 #[.slice A n c, .slice A1 n1 c1, .int .i64 (k : Int)] w fun e w' => e = .returned (.bool b) ∧ w = w' :=
  (lmark_any A n c A1 n1 c1 cs ws k w hr hr1 hk).mono fun _ _ ⟨he, hw⟩ => ⟨by rw [he, h], hw⟩
theorem lmark_at (A : Option Addr) (n c : Nat) (A1 : Option Addr) (n1 c1 : Nat) (cs ws : List Int) (k : Nat) (ki : Int) (hki : ki = (k : Int)) (b : Bool) (w : World) (hr : Rd w 1 A n (ints .u8 cs)) (hr1 : Rd w 1 A1 n1 (ints .i64 ws)) (hk : k < n) (h : mark (seen cs ws k) = b) :
    Calls Try.prog 28 #[.slice A n c, .slice A1 n1 c1, .int .i64 ki] w fun e w' => e = .returned (.bool b) ∧ w = w' := by
  subst hki
  exact lmark_is A n c A1 n1 c1 cs ws k b w hr hr1 hk h
theorem apart_is (c : Int) (b : Bool) (h : takes c = b) (w : World) : Calls Try.prog 29 #[.int .u8 c] w fun e w' => e = .returned (.bool (!b)) ∧ w = w' :=
  (apart_any c w).mono fun _ _ ⟨he, hw⟩ => ⟨by rw [he, h], hw⟩

set_option maxRecDepth 100000 in
set_option maxHeartbeats 8000000 in
theorem units_law (A : Option Addr) (n c : Nat) (zs : List Int) (A' : Option Addr) (n' c' : Nat) (ws : List Int) (w : World)
    (hr : Rd w 1 A n (ints .u8 zs)) (hz : ∀ z ∈ zs, 0 ≤ z ∧ z ≤ 255) (hr' : Rd w 1 A' n' (ints .i64 ws)) (_hz' : ∀ z ∈ ws, -9223372036854775808 ≤ z ∧ z ≤ 9223372036854775807) (hn : n + n' ≤ 1048576) :
    Calls Try.prog 10 #[.slice A n c, .slice A' n' c'] w fun e w' => e = .returned (.bool true) ∧ Below w.heap.size w w' := by
  clear _hz'
  go_enter Try.func10, Try.ntmps10
  go_wp2_with fail
  refine (awake19_any _).mono ?_
  rintro e w1 ⟨rfl, hb1⟩
  go_wp2_with fail
  refine (classes43_any _ _ _ zs _ (hr.same hb1) (by omega) hz).mono ?_
  rintro e w2 ⟨v2, rfl, hown2, hb2⟩
  have hB2 := hb1.trans (hb2.mono hb1.size)
  have HL := Lib.hid (show (classes43 zs).length = n by simpa [ints] using hown2.1)
  generalize classes43 zs = cs at *
  obtain ⟨A2, c2, rfl, _, hr2⟩ := own_slice hown2
  have hw2 := hr'.same hB2
  clear hr hr' hown2 hb1 hb2
  go_wp2_with fail
  refine (units_any _ _ _ _ _ _ cs ws _ hr2 hw2 (by omega)).mono ?_
  rintro e w3 ⟨v3, rfl, hown3, hb3⟩
  have HU := Lib.hid (units_are cs ws cs.length)
  have hul := unitsTo_length cs ws cs.length
  rw [HL.out] at HU hul
  rw [units, HL.out] at hown3
  replace hr2 := hr2.same hb3
  replace hw2 := hw2.same hb3
  have hB3 := hB2.trans (hb3.mono hB2.size)
  clear hB2 hb3
  generalize unitsTo cs ws n = us at *
  obtain ⟨A3, c3, rfl, _, _⟩ := own_slice hown3
  go_wp2
  go_loopw [6, 19] (fun a i wr => ∃ j q : Nat, j ≤ us.length ∧ i = .int .i64 j ∧ a = .int .i64 q ∧ Hid (q = ends us j) ∧ Below w3.heap.size w3 wr)
    (fun _ i _ => us.length - (intOf i).toNat)
  case atStart => exact ⟨0, 0, Nat.zero_le _, rfl, rfl, rfl, Below.refl _ _⟩
  case round =>
    obtain ⟨j, q, hj, rfl, rfl, HQ, hb⟩ := hrel
    by_cases hlt : j < us.length
    · obtain ⟨u, hu⟩ : ∃ u, us[j]? = some u := ⟨_, List.getElem?_eq_getElem hlt⟩
      obtain ⟨g1, g2⟩ := HU.out.each j u hu
      have hnx : mark (seen cs ws u.to) = true → takes (cs.getD u.frm 0) = false ∨ u.to = n := fun hm => by
        by_cases hjl : j + 1 < us.length
        · exact .inl (HU.out.next j u hu hjl hm)
        · right
          have := HU.out.last
          rw [ends, if_neg (by omega), show us.length - 1 = j from by omega, hu] at this
          simpa using this
      have HN : Hid (u.to = ends us (j + 1)) := by
        show _ = _
        rw [ends, if_neg (by omega), show j + 1 - 1 = j from by omega, hu]; rfl
      have hown := own_block hown3 fun g hg => hb.block g (hown3.lt g hg).2
      obtain ⟨g, c5, hv, hg1', hg2'⟩ := hown.form (by omega)
      injection hv with hA hnn hcc
      subst hA; subst hcc
      have e0 := (hown.cellAt (j * 4 + 0) (by omega)).trans (ucells_at hu 0 (by omega))
      have e1 := (hown.cellAt (j * 4 + 1) (by omega)).trans (ucells_at hu 1 (by omega))
      have e2 := (hown.cellAt (j * 4 + 2) (by omega)).trans (ucells_at hu 2 (by omega))
      have e3 := (hown.cellAt (j * 4 + 3) (by omega)).trans (ucells_at hu 3 (by omega))
      obtain ⟨frm, fin, cl, jo⟩ := u
      obtain ⟨l1, l2, l3, l4, l5, l6⟩ := g2
      simp only [U.cells, List.getElem?_cons_succ, List.getElem?_cons_zero, Nat.add_zero] at e0 e1 e2 e3 g1 l1 l2 l3 l4 l5 l6 hnx HN
      obtain ⟨t, rfl⟩ : ∃ t, fin = t + 1 := ⟨fin - 1, by omega⟩
      obtain rfl : q = frm := HQ.out.trans g1.symm
      clear g1 hnn hu HQ hown
      have e1' : wr.cell? ⟨g, j * 4 + 1, none⟩ = some (.int .i64 ((t : Int) + 1)) := by simpa using e1
      have htz : t < cs.length := by rw [HL.out]; omega
      have hqz : q < cs.length := by rw [HL.out]; omega
      obtain ⟨ad2, rfl, hc2⟩ := (hr2.same hb).2 (by omega)
      have x1 := hc2 q _ (ints_at hqz)
      have x2 := hc2 t _ (ints_at htz)
      have hqd : cs.getD q 0 = cs[q] := by rw [List.getD_eq_getElem?_getD, List.getElem?_eq_getElem hqz]; rfl
      have htd : cs.getD t 0 = cs[t] := by rw [List.getD_eq_getElem?_getD, List.getElem?_eq_getElem htz]; rfl
      rw [hqd] at l3 l6 hnx
      rw [show t + 1 - 1 = t from by omega, htd] at l4
      clear e1 hc2 hqd htd
      generalize cs[q] = x at *
      generalize cs[t] = y at *
      subst l4
      have H5 := Lib.hid l5
      have H6 := Lib.hid l6
      have HX := Lib.hid hnx
      have hrw := hr2.same hb
      have hww := hw2.same hb
      have hbe := hb.size
      clear l5 l6 hnx hqz htz
      cases hmk : mark (seen cs ws q)
      all_goals
        rw [hmk] at l3
        simp only [Bool.false_eq_true, if_false, if_true] at l3
        have HCL := Lib.hid l3
        clear l3
        go_upto_region 8 with (fail)
        have hlit := World.ownsRow_lit (base := wr.heap.size) (e := 44) (size := 4) wr #[.int .i64 (q : Int), .int .i64 ((t : Int) + 1), .int .u8 cl, .bool (y == 4)] 1 (Nat.le_refl _) (by unfold maxLen; omega) rfl
        have f0 := hlit.cellAt 0 (by omega)
        have f1 := hlit.cellAt 1 (by omega)
        have f2 := hlit.cellAt 2 (by omega)
        have f3 := hlit.cellAt 3 (by omega)
        simp only [List.getElem?_cons_succ, List.getElem?_cons_zero] at f0 f1 f2 f3
        have y1 := (World.cell?_alloc_lt wr (.cells #[.int .i64 (q : Int), .int .i64 ((t : Int) + 1), .int .u8 cl, .bool (y == 4)] 44) _ (World.block_lt_of_cell? wr _ x1)).trans x1
        have y2 := (World.cell?_alloc_lt wr (.cells #[.int .i64 (q : Int), .int .i64 ((t : Int) + 1), .int .u8 cl, .bool (y == 4)] 44) _ (World.block_lt_of_cell? wr _ x2)).trans x2
        have hrw' := hrw.alloc (.cells #[.int .i64 (q : Int), .int .i64 ((t : Int) + 1), .int .u8 cl, .bool (y == 4)] 44)
        have hww' := hww.alloc (.cells #[.int .i64 (q : Int), .int .i64 ((t : Int) + 1), .int .u8 cl, .bool (y == 4)] 44)
        have hb' := hb.alloc hbe (.cells #[.int .i64 (q : Int), .int .i64 ((t : Int) + 1), .int .u8 cl, .bool (y == 4)] 44)
        have hsz : wr.heap.size < (wr.alloc (.cells #[.int .i64 (q : Int), .int .i64 ((t : Int) + 1), .int .u8 cl, .bool (y == 4)] 44)).heap.size := by simp
        clear e0 e1' e2 e3 x1 x2 hlit hb hbe
        generalize wr.alloc (.cells #[.int .i64 (q : Int), .int .i64 ((t : Int) + 1), .int .u8 cl, .bool (y == 4)] 44) = W5 at *
        generalize wr.heap.size = b0 at *
        have HM := Lib.hid (fun W hr hw => lmark_is (some ad2) n c2 A' n' c' cs ws q _ W hr hw (by omega) hmk)
        have ht1 : decide ((t : Int) + 1 ≤ (q : Int)) = false := by simp; omega
        have ht2 : decide ((n : Int) < (t : Int) + 1) = false := by simp; omega
        clear hrw hww hmk
        go_wp2_with (first
          | (go_at_call 27; refine (lcls_any _ _).mono ?_; rintro e w' ⟨rfl, rfl⟩)
          | (go_at_call 28; refine (HM.out _ hrw' hww').mono ?_; rintro e w' ⟨rfl, rfl⟩))
        have hcl : (cl != cls x) = false ∨ (cl != 1) = false := by
          have := HCL.out
          first | (left; rw [this]; simp; done) | (right; rw [this]; rfl)
        first
          | (have hcl : (cl != cls x) = false := by (rw [HCL.out]; simp; done))
          | (have hcl : (cl != 1) = false := by (rw [HCL.out]; rfl))
        go_quiet (fail)
        clear HM
        go_wp2
        go_loopw [10] (fun i wz => ∃ k : Nat, q < k ∧ k ≤ t + 1 ∧ i = .int .i64 k ∧ Below W5.heap.size W5 wz)
          (fun i _ => t + 1 - (intOf i).toNat)
        case atStart => exact ⟨q + 1, by omega, by omega, by go_num, drawn (Below.refl _ _) _⟩
        case round =>
          obtain ⟨k, hk0, hk1, rfl, hbz⟩ := hrel
          have z1 := (hbz.cell (p := ⟨b0, 1, none⟩) hsz).trans f1
          have hrz := hrw'.same hbz
          have hwz := hww'.same hbz
          by_cases hkt : k < t + 1
          · have HK := Lib.hid (fun W hr hw => lmark_is (some ad2) n c2 A' n' c' cs ws k true W hr hw (by omega) (H5.out k hk0 hkt))
            clear f0 f1 f2 f3 y1 y2 hrw' hww'
            go_wp2_with (go_at_call 28; refine (HK.out _ hrz hwz).mono ?_; rintro e w' ⟨rfl, rfl⟩)
            go_roundw
            case rel => exact ⟨k + 1, by omega, by omega, by go_num, hbz⟩
            case measure => simp [intOf]; omega
          · obtain rfl : k = t + 1 := by omega
            have z0 := (hbz.cell (p := ⟨b0, 0, none⟩) hsz).trans f0
            have zy := (hbz.cell (World.block_lt_of_cell? W5 _ y1)).trans y1
            have hbf := hb'.trans (hbz.mono hb'.size)
            clear f0 f1 f2 f3 y1 y2 hrw' hww'
            have hcase : (1 < t + 1 - q ∧ takes x = true ∧ t + 1 < n ∧ mark (seen cs ws (t + 1)) = false) ∨ (1 < t + 1 - q ∧ takes x = true ∧ ¬ t + 1 < n) ∨ (¬ 1 < t + 1 - q ∧ t + 1 < n ∧ mark (seen cs ws (t + 1)) = false) ∨
                (¬ 1 < t + 1 - q ∧ t + 1 < n ∧ mark (seen cs ws (t + 1)) = true ∧ takes x = false) ∨ (¬ 1 < t + 1 - q ∧ ¬ t + 1 < n) := by
              have h6 := H6.out
              have hx := HX.out
              clear hcl
              by_cases h1 : 1 < t + 1 - q <;> by_cases h2 : t + 1 < n <;> cases hm : mark (seen cs ws (t + 1)) <;> cases ht : takes x <;> simp_all <;> omega
            have HM2 := Lib.hid (fun b W hr hw h2 hm => lmark_at (some ad2) n c2 A' n' c' cs ws (t + 1) ((t : Int) + 1) (by simp) b W hr hw h2 hm)
            have HEN := HN.out
            have HEN' := Lib.hid HEN
            clear HEN HX H6 H5 HN
            rcases hcase with ⟨h1, htk, h2, hm2⟩ | ⟨h1, htk, h2⟩ | ⟨h1, h2, hm2⟩ | ⟨h1, h2, hm2, htk⟩ | ⟨h1, h2⟩
            · have d1 : (1 : Int) < (t : Int) + 1 - (q : Int) := by omega
              have d2 : (t : Int) + 1 < (n : Int) := by omega
              have HM3 := Lib.hid (fun W hr hw => HM2.out false W hr hw h2 hm2)
              clear HM2 h1 h2 hm2
              go_wp2_with (first
                | (go_at_call 28; refine (HM3.out _ hrz hwz).mono ?_; rintro e w' ⟨rfl, rfl⟩)
                | (go_at_call 29; refine (apart_is _ _ htk _).mono ?_; rintro e w' ⟨rfl, rfl⟩))
              go_roundw
              case rel => exact ⟨j + 1, t + 1, by omega, by go_num, by go_num, HEN', hbf⟩
              case measure => simp [intOf]; omega
            · have d1 : (1 : Int) < (t : Int) + 1 - (q : Int) := by omega
              have d2 : decide ((t : Int) + 1 < (n : Int)) = false := by simp; omega
              clear HM2 h1 h2
              go_wp2_with (go_at_call 29; refine (apart_is _ _ htk _).mono ?_; rintro e w' ⟨rfl, rfl⟩)
              go_roundw
              case rel => exact ⟨j + 1, t + 1, by omega, by go_num, by go_num, HEN', hbf⟩
              case measure => simp [intOf]; omega
            · have d1 : decide ((1 : Int) < (t : Int) + 1 - (q : Int)) = false := by simp; omega
              have d2 : (t : Int) + 1 < (n : Int) := by omega
              have HM3 := Lib.hid (fun W hr hw => HM2.out false W hr hw h2 hm2)
              clear HM2 h1 h2 hm2
              go_wp2_with (go_at_call 28; refine (HM3.out _ hrz hwz).mono ?_; rintro e w' ⟨rfl, rfl⟩)
              go_roundw
              case rel => exact ⟨j + 1, t + 1, by omega, by go_num, by go_num, HEN', hbf⟩
              case measure => simp [intOf]; omega
            · have d1 : decide ((1 : Int) < (t : Int) + 1 - (q : Int)) = false := by simp; omega
              have d2 : (t : Int) + 1 < (n : Int) := by omega
              have HM3 := Lib.hid (fun W hr hw => HM2.out true W hr hw h2 hm2)
              clear HM2 h1 h2 hm2
              go_wp2_with (first
                | (go_at_call 28; refine (HM3.out _ hrz hwz).mono ?_; rintro e w' ⟨rfl, rfl⟩)
                | (go_at_call 29; refine (apart_is _ _ htk _).mono ?_; rintro e w' ⟨rfl, rfl⟩))
              go_roundw
              case rel => exact ⟨j + 1, t + 1, by omega, by go_num, by go_num, HEN', hbf⟩
              case measure => simp [intOf]; omega
            · have d1 : decide ((1 : Int) < (t : Int) + 1 - (q : Int)) = false := by simp; omega
              have d2 : decide ((t : Int) + 1 < (n : Int)) = false := by simp; omega
              clear HM2 h1 h2
              go_wp2
              go_roundw
              case rel => exact ⟨j + 1, t + 1, by omega, by go_num, by go_num, HEN', hbf⟩
              case measure => simp [intOf]; omega
    · have hq : (q : Int) = n := by
        have h1 := HQ.out
        have h2 := HU.out.last
        rw [show us.length = j from by omega] at h2
        omega
      clear HU HQ
      obtain rfl : n = q := by omega
      go_wp2
      go_ret
      exact ⟨rfl, hB3.trans (hb.mono hB3.size)⟩
end Go.Proofs.Ytgkmpndebcdigaa.lb
