/-
  Layer 4: the walks of the statements BidicParts and BidicEach.
-/
import Derived.Test.YtpipeemoikdlaaaTb5
namespace Go.Proofs.Ytpipeemoikdlaaa.tr
open Go.RowKit

theorem infoRn : (Try.prog.info? 21).map (fun i => (i.zero, i.size, i.bytes)) = some (some (.int .i32 0), 1, 4) := by kernel_rfl
theorem find_le {R : List G} {c o m : Int} (h : ∀ x ∈ R, x.v ≤ m) (ho : o ≤ m) : find R c o ≤ m := by
  induction R with
  | nil => exact ho
  | cons x r ih =>
    rw [find]
    split
    · exact h x (by simp)
    · exact ih fun y hy => h y (by simp [hy])
theorem tab_le : (tab.all fun x => decide (x.2.2 ≤ 22)) = true := by kernel_rfl
theorem cls_le (r : Int) : clsOf r ≤ 22 := by
  rw [cls_find]
  refine find_le (fun x hx => ?_) (by omega)
  simp only [tabG, List.mem_map] at hx
  obtain ⟨y, hy, rfl⟩ := hx
  have := List.all_eq_true.1 tab_le y hy
  simpa [gOf] using this

set_option maxRecDepth 100000 in
set_option maxHeartbeats 8000000 in
theorem parts_law (A : Option Addr) (n c : Nat) (rs : List Int) (A' : Option Addr) (n' c' : Nat) (rs' : List Int) (w : World) (hr : Rd w 1 A n (ints .i32 rs)) (_ : ∀ z ∈ rs, -2147483648 ≤ z ∧ z ≤ 2147483647)
    (hr' : Rd w 1 A' n' (ints .i32 rs')) (_ : ∀ z ∈ rs', -2147483648 ≤ z ∧ z ≤ 2147483647) (hn : n + n' ≤ 1048576) :
    Calls Try.prog 6 #[.slice A n c, .slice A' n' c'] w fun e w' => e = .returned (.bool true) ∧ Below w.heap.size w w' := by
  obtain ⟨i0, hi, hz0, hz1, hz2⟩ := info_parts infoRn
  have HL := Lib.hid (show rs.length = n by simpa using hr.1)
  have HL' := Lib.hid (show rs'.length = n' by simpa using hr'.1)
  go_enter Try.func6, Try.ntmps6
  go_upto_region 9 with (first
    | (go_at_call 8; (with_reducible refine (awake_any _).mono ?_); rintro e w1 ⟨rfl, hb1⟩; have hr1 := hr.same hb1; have hr1' := hr'.same hb1; clear hr hr')
    | (at_builtin; refine wpList_append_rd rfl (.tmp 13) (.tmp 14) 35 rfl w1.heap.size w1 w1.heap.size 21 i0 (.int .i32 0) 1 4 Try.underlying35 hi hz0 hz1 hz2 rfl (by decide) _ _ _ rfl (World.ownsRow_nil _ _ _ _) _ _ _ _ rfl hr1 ints_one (Below.refl _ _) (Nat.le_refl _) (Nat.le_refl _) (Nat.le_refl _) (by omega) (by omega) ?_; intro v2 w2 hO2 hb2 u1 u2; clear u1 u2; simp only [Nat.zero_add, List.nil_append] at hO2)
    | (at_builtin; refine wpList_append_rd rfl (.tmp 16) (.tmp 17) 35 rfl w1.heap.size w1 w1.heap.size 21 i0 (.int .i32 0) 1 4 Try.underlying35 hi hz0 hz1 hz2 rfl (by decide) _ _ _ rfl hO2 _ _ _ _ rfl (hr1'.same hb2) ints_one hb2 hb2.size (Nat.le_refl _) hb2.size (by omega) (by omega) ?_; intro v3 w3 hO3 hb3 u1 u2; clear u1 u2; have hrA := hr1.same hb3; have hrB := hr1'.same hb3; have hB3 := hb1.trans (hb3.mono hb1.size); obtain ⟨A3, c3, rfl, _, hrC0⟩ := own_slice hO3; have hrC : Rd w3 1 A3 (n + n') (ints .i32 (rs ++ rs')) := (by rw [ints, List.map_append]; exact hrC0); clear hO2 hb2 hrC0 hr1 hr1' hO3 hb3 hb1)
    | (go_at_call 12; (with_reducible refine (of_any A n c rs _ hrA (by omega)).mono ?_); rintro e w4 ⟨v4, rfl, hO4, hb4⟩; have hB4 := hB3.trans (hb4.mono hB3.size); have hrB4 := hrB.same hb4; have hrC4 := hrC.same hb4; obtain ⟨A4, c4, rfl, _, hl4⟩ := own_slice hO4; clear hO4 hb4 hrA hrB hrC)
    | (go_at_call 12; (with_reducible refine (of_any A' n' c' rs' _ hrB4 (by omega)).mono ?_); rintro e w5 ⟨v5, rfl, hO5, hb5⟩; have hB5 := hB4.trans (hb5.mono hB4.size); have hrC5 := hrC4.same hb5; have hl45 := hl4.same hb5; obtain ⟨A5, c5, rfl, _, hl5⟩ := own_slice hO5; clear hO5 hb5 hrB4 hrC4 hl4)
    | (go_at_call 12; (with_reducible refine (of_any A3 (n + n') c3 (rs ++ rs') _ hrC5 (by omega)).mono ?_); rintro e w6 ⟨v6, rfl, hO6, hb6⟩; have hB6 := hB5.trans (hb6.mono hB5.size); have hl46 := hl45.same hb6; have hl56 := hl5.same hb6; obtain ⟨A6, c6, rfl, _, hl6⟩ := own_slice hO6; clear hO6 hb6 hrC5 hl45 hl5))
  have H4 := Lib.hid hl46
  have H5 := Lib.hid hl56
  have H6 := Lib.hid hl6
  clear hl46 hl56 hl6
  go_wp2
  go_loopw [46] (fun i wr => ∃ k : Nat, k ≤ n + n' ∧ i = .int .i64 k ∧ Below w6.heap.size w6 wr) (fun i _ => n + n' - (intOf i).toNat)
  case atStart => exact ⟨0, Nat.zero_le _, rfl, Below.refl _ _⟩
  case round =>
    obtain ⟨k, hk, rfl, hb⟩ := hrel
    by_cases hlt : k < n + n'
    · have hkl : k < (rs ++ rs').length := by rw [List.length_append, HL.out, HL'.out]; exact hlt
      obtain ⟨ad6, rfl, e6⟩ := (H6.out.same hb).cell_ (show (ints .u8 ((rs ++ rs').map clsOf))[k]? = some (.int .u8 (clsOf (rs ++ rs')[k])) from by rw [ints, List.map_map, List.getElem?_map, List.getElem?_eq_getElem hkl]; rfl)
      have hle := cls_le (rs ++ rs')[k]
      by_cases hkn : k < n
      · have hkr : k < rs.length := by rw [HL.out]; exact hkn
        obtain ⟨ad4, rfl, e4⟩ := (H4.out.same hb).cell_ (show (ints .u8 (rs.map clsOf))[k]? = some (.int .u8 (clsOf (rs ++ rs')[k])) from by rw [List.getElem_append_left hkr]; simp [ints, hkr])
        generalize clsOf (rs ++ rs')[k] = v at *
        have d1 : decide (22 < v) = false := by simp; omega
        have y1 : (k : Int) < (n : Int) + (n' : Int) := by omega
        have y2 : (k : Int) < (n : Int) := by omega
        have d2 : decide ((n : Int) ≤ (k : Int)) = false := by simp; omega
        have d3 : decide (n ≤ k) = false := by simp; omega
        go_wp2
        go_roundw
        case rel => exact ⟨k + 1, by omega, by go_num, by first | exact hb | exact hb.drew | exact drawn hb _⟩
        case measure => simp [intOf]; omega
      · obtain ⟨j, hj⟩ : ∃ j, k = n + j := ⟨k - n, by omega⟩
        have hjr : j < rs'.length := by rw [HL'.out]; omega
        obtain ⟨ad5, rfl, e5⟩ := (H5.out.same hb).cell_ (show (ints .u8 (rs'.map clsOf))[j]? = some (.int .u8 (clsOf (rs ++ rs')[k])) from by
          rw [List.getElem_append_right (by rw [HL.out]; omega)]
          simp only [HL.out, show k - n = j from by omega]
          simp [ints, hjr])
        generalize clsOf (rs ++ rs')[k] = v at *
        have d1 : decide (22 < v) = false := by simp; omega
        have y1 : (k : Int) < (n : Int) + (n' : Int) := by omega
        have d2 : decide ((k : Int) < (n : Int)) = false := by simp; omega
        have d3 : decide (k < n) = false := by simp; omega
        have y3 : (n : Int) ≤ (k : Int) := by omega
        have x1 : (k : Int) - (n : Int) = (j : Int) := by omega
        have y4 : (j : Int) < (n' : Int) := by omega
        have HJ := Lib.hid hj
        clear hj hkn
        go_wp2
        go_roundw
        case rel => exact ⟨k + 1, by omega, by go_num, by first | exact hb | exact hb.drew | exact drawn hb _⟩
        case measure => simp [intOf]; omega
    · have hge : n + n' ≤ k := by omega
      go_wp2
      go_ret
      exact ⟨rfl, hB6.trans (hb.mono hB6.size)⟩

theorem Addr.add_zero_ (a : Addr) : a.add 0 = a := by unfold Addr.add; simp
theorem slice_one (ad : Addr) (n c i : Nat) (hi : i < n) (hnc : n ≤ c) (W : World) :
    (Instr.sliceAt 35 (.slice (some ad) n c) (some (.int .i64 (i : Int))) (some (.int .i64 ((i : Int) + 1))) none).run Try.prog W = .ok (.slice (some (ad.add i)) 1 (c - i)) W := by
  have hu := Try.underlying35
  have h2 : ¬ c = i := by omega
  have h3 : (i : Int) + 1 ≤ (c : Int) := by omega
  simp [Instr.sliceAt, go_sem, h2, h3]
  intro h
  omega
theorem rd_one {w : World} {ad : Addr} {n i : Nat} {rs : List Int} (h : Rd w 1 (some ad) n (ints .i32 rs)) (hi : i < rs.length) : Rd w 1 (some (ad.add i)) 1 (ints .i32 [rs[i]]) := by
  refine ⟨rfl, fun _ => ⟨ad.add i, rfl, fun j u hu => ?_⟩⟩
  obtain ⟨ad', he, hc⟩ := h.cell_ (ints_at (K := .i32) hi)
  injection he with he
  subst he
  cases j with
  | zero =>
    simp only [ints, List.map_cons, List.map_nil, List.getElem?_cons_zero, Option.some.injEq] at hu
    rw [add_of_add, Nat.add_zero, hc, hu]
  | succ j => simp [ints] at hu
set_option maxRecDepth 100000 in
set_option maxHeartbeats 8000000 in
theorem each_law (A : Option Addr) (n c : Nat) (rs : List Int) (x : Int) (w : World) (hr : Rd w 1 A n (ints .i32 rs)) (hnc : n ≤ c) (hx : 0 ≤ x ∧ x ≤ 65535) (hn : n ≤ 35184372088832) :
    Calls Try.prog 5 #[.slice A n c, .int .u16 x] w fun e w' => e = .returned (.bool true) ∧ Below w.heap.size w w' := by
  have hL : rs.length = n := by simpa using hr.1
  obtain ⟨xn, rfl⟩ : ∃ xn : Nat, x = (xn : Int) := ⟨x.toNat, by omega⟩
  rcases Nat.eq_zero_or_pos n with h0 | h0
  · subst h0
    go_enter Try.func5, Try.ntmps5
    go_wp2_with (first
      | (go_at_call 8; (with_reducible refine (awake_any _).mono ?_); rintro e w1 ⟨rfl, hb1⟩)
      | (go_at_call 12; (with_reducible refine (of_any _ _ _ rs _ (hr.same hb1) (by omega)).mono ?_); rintro e w2 ⟨v2, rfl, hO2, hb2⟩; have hB2 := hb1.trans (hb2.mono hb1.size); obtain ⟨A2, c2, rfl, _, _⟩ := own_slice hO2))
    all_goals go_ret
    all_goals exact ⟨rfl, hB2⟩
  · obtain ⟨i, hi⟩ : ∃ i, xn % n = i := ⟨_, rfl⟩
    have hin : i < n := by rw [← hi]; exact Nat.mod_lt _ h0
    have hil : i < rs.length := by rw [hL]; exact hin
    obtain ⟨ad, rfl, _⟩ := hr.2 h0
    have x1 : ((xn : Int).tmod (n : Int)) = (i : Int) := by rw [Int.tmod_eq_emod_of_nonneg (by omega), ← hi]; rfl
    have x0 : (n : Int) ≠ 0 := by omega
    have x2 : ((n : Int) == 0) = false := by simp; omega
    have x3 : (n == 0) = false := by simp; omega
    have HL := Lib.hid hL
    have HR := Lib.hid hr
    have hsl := slice_one ad n c i hin hnc
    have x5 : IntKind.i64.wrap ((i : Int) + 1) = (i : Int) + 1 := IntWalk.i64_in _ (by omega)
    have x6 : IntKind.i64.wrap (xn : Int) = (xn : Int) := IntWalk.i64_in _ (by omega)
    have x7 : IntKind.i64.wrap (i : Int) = (i : Int) := IntWalk.i64_in _ (by omega)
    have y5 : (i : Int) + 1 ≤ (c : Int) := by omega
    have y6 : (i : Int) ≤ (i : Int) + 1 := by omega
    have y7 : (0 : Int) ≤ (i : Int) := by omega
    clear hr hL hi
    go_enter Try.func5, Try.ntmps5
    go_upto_region 6 with (go_at_call 8; (with_reducible refine (awake_any _).mono ?_); rintro e w1 ⟨rfl, hb1⟩)
    have HA := Lib.hid (fun (W : World) (h : Below w.heap.size w W) => of_any (some ad) n c rs W (HR.out.same h) (by omega))
    have HB := Lib.hid (fun (W : World) (h : Below w.heap.size w W) => of_any (some (ad.add i)) 1 (c - i) [rs[i]] W (rd_one (HR.out.same h) hil) (by omega))
    have hb1' := hb1.drew
    go_region_held3 (fun w' => True) (trivial)
      (first
        | (go_at_call 12; (with_reducible refine (HA.out _ (by assumption)).mono ?_); rintro e wa ⟨va, rfl, hOa, hba⟩; have hBa : Below w.heap.size w wa := (by first | exact hb1'.trans (hba.mono hb1'.size) | exact hBb.trans (hba.mono hBb.size)); obtain ⟨Aa, ca, rfl, _, hla⟩ := own_slice hOa)
        | (go_at_call 12; (with_reducible refine (HB.out _ (by assumption)).mono ?_); rintro e wb ⟨vb, rfl, hOb, hbb⟩; have hBb : Below w.heap.size w wb := (by first | exact hb1'.trans (hbb.mono hb1'.size) | exact hBa.trans (hbb.mono hBa.size)); obtain ⟨Ab, cb, rfl, _, hlb⟩ := own_slice hOb))
    all_goals first
      | (have hlf := hla.same hbb; have hlg := hlb; have hBf := hBb; clear hla hlb hba hbb hBa hBb hOa hOb)
      | (have hlf := hla; have hlg := hlb.same hba; have hBf := hBa; clear hla hlb hba hbb hBa hBb hOa hOb)
    all_goals
      obtain ⟨ad1, rfl, e1⟩ := hlf.cell_ (show (ints .u8 (rs.map clsOf))[i]? = some (.int .u8 (clsOf rs[i])) from by simp [ints, hil])
      obtain ⟨ad2, rfl, e2⟩ := hlg.cell_ (show (ints .u8 ([rs[i]].map clsOf))[0]? = some (.int .u8 (clsOf rs[i])) from by simp [ints])
    all_goals
      have e2' := (show _ = _ from e2)
      rw [Addr.add_zero_] at e2'
      generalize clsOf rs[i] = v at *
      have y1 : (i : Int) < (n : Int) := by omega
      clear hlf hlg
      go_wp2
      go_upto_region 7 with (fail)
      go_quiet (fail)
      go_wp2
      go_ret
      exact ⟨rfl, drawn hBf _⟩
end Go.Proofs.Ytpipeemoikdlaaa.tr
