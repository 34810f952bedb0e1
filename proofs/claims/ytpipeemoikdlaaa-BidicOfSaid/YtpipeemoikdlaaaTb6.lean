/-
  Layer 4: the walks of the statements BidicTables and BidicOf.
-/
import Derived.Test.YtpipeemoikdlaaaTb5
namespace Go.Proofs.Ytpipeemoikdlaaa.tr
open Go.RowKit

set_option maxRecDepth 100000 in
set_option maxHeartbeats 8000000 in
theorem tables_law (x : Int) (w : World) (hx : 0 ≤ x ∧ x ≤ 65535) :
    Calls Try.prog 3 #[.int .u16 x] w fun e w' => e = .returned (.bool true) ∧ Below w.heap.size w w' := by
  obtain ⟨xn, rfl⟩ : ∃ xn : Nat, x = (xn : Int) := ⟨x.toNat, by omega⟩
  go_enter Try.func3, Try.ntmps3
  go_upto_region 4 with (first
    | (go_at_call 8; (with_reducible refine (awake_any _).mono ?_); rintro e w1 ⟨rfl, hb1⟩)
    | (go_at_call 9; (with_reducible refine (table_any _).mono ?_); rintro e w2 ⟨g, c, rfl, hc, hg1, hg2, hRG, hb2⟩)
    | (go_at_call 10; (with_reducible refine (bidi_any _).mono ?_); rintro e w3 ⟨rfl, hw3⟩; have HW3 := Lib.hid hw3; clear hw3))
  have hT3 : Blk w3 w2.heap.size 33 (tcells .i64 tab).toArray := by rw [HW3.out]; exact Blk.new w2 _ _
  have hb3 : Below w2.heap.size w2 w3 := by rw [HW3.out]; exact (Below.refl _ _).alloc (Nat.le_refl _) _
  have hRG3 := hRG.below hb3 hg2
  have hB3 := (hb1.trans (hb2.mono hb1.size)).trans (hb3.mono (hb1.trans (hb2.mono hb1.size)).size)
  have HCK := Lib.hid (check_any g 188 c tabG w3 hRG3 tab_rising (by omega) (Nat.lt_of_lt_of_le hg2 hb3.size))
  obtain ⟨i, hi⟩ : ∃ i, xn % 188 = i := ⟨_, rfl⟩
  have hi8 : i < 188 := by omega
  obtain ⟨y, hy, hgy⟩ := tabG_at hi8
  have hkl : i < tabG.length := by rw [tabG_length]; exact hi8
  have HRB := Lib.hid hRG3
  have HTB := Lib.hid hT3
  have hgy2 : tabG[i] = gOf y := by rw [List.getElem?_eq_getElem hkl] at hgy; injection hgy
  have hrg := tab_rising.at hkl
  rw [hgy2] at hrg
  have hlt3 := hT3.lt
  have hg3 := Nat.lt_of_lt_of_le hg2 hb3.size
  clear hb1 hb2 hb3 hRG hRG3 hT3 HW3
  go_upto_region 6 with (go_at_call 11; (with_reducible refine HCK.out.mono ?_); rintro e w4 ⟨rfl, hb4⟩)
  have hB4 := hB3.trans (hb4.mono hB3.size)
  obtain ⟨c0, c1, c2⟩ := (HRB.out.below hb4 hg3).2 i hkl
  obtain ⟨d0, d1, d2⟩ := (HTB.out.below hb4 hlt3).tri hy
  simp only [Nat.zero_add] at c0 c1 c2
  rw [hgy2] at c0 c1 c2
  obtain ⟨lo, hi', v⟩ := y
  simp only [gOf] at c0 c1 c2 d0 d1 d2 hrg
  obtain ⟨r1, r2, r3, r4, r5, r6⟩ := hrg
  have x1 : ((xn : Int).tmod 188) = (i : Int) := by rw [Int.tmod_eq_emod_of_nonneg (by omega)]; omega
  have x2 : IntKind.i64.wrap (xn : Int) = (xn : Int) := IntWalk.i64_in _ (by omega)
  have x3 : IntKind.i64.wrap lo = lo := IntWalk.i64_in _ (by omega)
  have x4 : IntKind.i64.wrap hi' = hi' := IntWalk.i64_in _ (by omega)
  have x5 : IntKind.i64.wrap v = v := IntWalk.i64_in _ (by omega)
  have x6 : IntKind.i64.wrap (i : Int) = (i : Int) := IntWalk.i64_in _ (by omega)
  have y1 : (i : Int) < 188 := by omega
  clear hb4 HRB HTB HCK hy hgy hgy2 hB3 hi
  go_upto_region 7 with (fail)
  go_quiet (fail)
  go_wp2
  go_ret
  exact ⟨rfl, drawn hB4 _⟩

set_option maxRecDepth 100000 in
set_option maxHeartbeats 8000000 in
theorem of_law (A : Option Addr) (n c : Nat) (rs : List Int) (w : World) (hr : Rd w 1 A n (ints .i32 rs)) (hz : ∀ z ∈ rs, -2147483648 ≤ z ∧ z ≤ 2147483647) (hn : n ≤ 35184372088832) :
    Calls Try.prog 4 #[.slice A n c] w fun e w' => e = .returned (.bool true) ∧ Below w.heap.size w w' := by
  have HL := Lib.hid (show rs.length = n by simpa using hr.1)
  go_enter Try.func4, Try.ntmps4
  go_upto_region 4 with (first
    | (go_at_call 8; (with_reducible refine (awake_any _).mono ?_); rintro e w1 ⟨rfl, hb1⟩)
    | (go_at_call 12; (with_reducible refine (of_any _ _ _ rs _ (hr.same hb1) (by omega)).mono ?_); rintro e w2 ⟨v2, rfl, hO2, hb2⟩))
  have hB2 := hb1.trans (hb2.mono hb1.size)
  obtain ⟨A2, c2, rfl, _, hl2⟩ := own_slice hO2
  have hr2 := hr.same hB2
  have HR := Lib.hid hr2
  have HL2 := Lib.hid hl2
  clear hr hr2 hl2 hO2 hb1 hb2
  go_wp2
  go_loopw [4] (fun i wr => ∃ k : Nat, k ≤ n ∧ i = .int .i64 k ∧ Below w2.heap.size w2 wr) (fun i _ => n - (intOf i).toNat)
  case atStart => exact ⟨0, Nat.zero_le _, rfl, Below.refl _ _⟩
  case round =>
    obtain ⟨k, hk, rfl, hb⟩ := hrel
    by_cases hlt : k < n
    · have hkl : k < rs.length := by rw [HL.out]; exact hlt
      obtain ⟨ad, rfl, e1⟩ := (HR.out.same hb).cell_ (ints_at (K := .i32) hkl)
      obtain ⟨ad2, rfl, e2⟩ := (HL2.out.same hb).cell_ (show (ints .u8 (rs.map clsOf))[k]? = some (.int .u8 (clsOf rs[k])) from by simp [ints, hkl])
      have hx := hz rs[k] (List.getElem_mem hkl)
      have hcf := cls_find rs[k]
      have hcr := cls_range rs[k]
      rw [hcf] at e2 hcr
      have y1 : (k : Int) < (n : Int) := by omega
      clear hz hcf
      generalize rs[k] = x at *
      have x1 : IntKind.i64.wrap x = x := IntWalk.i64_in _ (by omega)
      have x2 : IntKind.i64.wrap (find tabG x 0) = find tabG x 0 := IntWalk.i64_in _ (by omega)
      have l1 := World.block_lt_of_cell? wr _ e1
      have l2 := World.block_lt_of_cell? wr _ e2
      have HB := Lib.hid hb
      have FA := Lib.hid (fun (g : Nat) (W : World) (h : Blk W g 33 (tcells .i64 tab).toArray) => find_any g x 0 W h)
      go_upto_region 9 with (fail)
      go_region_held3 (fun w' => w'.cell? (ad.add k) = some (.int .i32 x) ∧ w'.cell? (ad2.add k) = some (.int .u8 (find tabG x 0))) (first | exact ⟨by assumption, by assumption⟩)
        (first
          | (go_at_call 10; (with_reducible refine (bidi_any _).mono ?_); rintro e w5 ⟨rfl, hw5⟩; have hT5 : Blk w5 wr.heap.size 33 (tcells .i64 tab).toArray := (by rw [hw5]; exact Blk.new _ _ _); have hb5 : Below wr.heap.size wr w5 := (by rw [hw5]; exact ((Below.refl _ _).drew).alloc (Nat.le_refl _) _); have s1 := (hb5.cell l1).trans e1; have s2 := (hb5.cell l2).trans e2; have HW5 := Lib.hid hw5; clear hw5)
          | (go_at_call 13; (with_reducible refine (FA.out _ _ hT5).mono ?_); rintro e w6 ⟨rfl, rfl⟩))
      have hB5 := HB.out.trans (hb5.mono HB.out.size)
      clear hT5 hb5 HW5 s1 s2 e1 e2
      go_wp2
      go_roundw
      case rel => exact ⟨k + 1, by omega, by go_num, by first | exact hB5 | exact hB5.drew | exact drawn hB5 _⟩
      case measure => simp [intOf]; omega
    · have hge : n ≤ k := by omega
      go_wp2
      go_ret
      exact ⟨rfl, hB2.trans (hb.mono hB2.size)⟩
end Go.Proofs.Ytpipeemoikdlaaa.tr
