/-
  Layer 7: the walk of the statement CellwOf.
-/
import Derived.Test.YtolmamcpjapdkaaCw6
namespace Go.Proofs.Ytolmamcpjapdkaa.cw
open Go.RowKit tr

/-- what the document says of a scalar -/
theorem cls_doc (r : Int) : clsOf r = if r < 0 ∨ 1114111 < r then 0 else find tabG r 1 := rfl
set_option maxRecDepth 100000 in
set_option maxHeartbeats 8000000 in
theorem of_law (A : Option Addr) (n c : Nat) (rs : List Int) (x : Int) (w : World) (hr : Rd w 1 A n (ints .i32 rs)) (hz : ∀ z ∈ rs, -2147483648 ≤ z ∧ z ≤ 2147483647) (hx : 0 ≤ x ∧ x ≤ 65535) (hn : n ≤ 35184372088832) :
    Calls Try.prog 3 #[.slice A n c, .int .u16 x] w fun e w' => e = .returned (.bool true) ∧ Below w.heap.size w w' := by
  obtain ⟨xn, rfl⟩ : ∃ xn : Nat, x = (xn : Int) := ⟨x.toNat, by omega⟩
  have HL := Lib.hid (show rs.length = n by simpa using hr.1)
  go_enter Try.func3, Try.ntmps3
  go_upto_region 5 with (first
    | (go_at_call 6; (with_reducible refine (awake_any _).mono ?_); rintro e w1 ⟨rfl, hb1⟩)
    | (go_at_call 7; (with_reducible refine (of_any _ _ _ rs _ (hr.same hb1) (by omega)).mono ?_); rintro e w2 ⟨v2, rfl, hO2, hb2⟩; have hB2 := hb1.trans (hb2.mono hb1.size); obtain ⟨A2, c2, rfl, _, hl2⟩ := own_slice hO2; have hr2 := hr.same hB2; clear hr hO2 hb1 hb2)
    | (go_at_call 8; (with_reducible refine (table_any _).mono ?_); rintro e w3 ⟨g, ct, rfl, hc, hg1, hg2, hRG, hb3⟩; have hB3 := hB2.trans (hb3.mono hB2.size); have hr3 := hr2.same hb3; have hl3 := hl2.same hb3; clear hr2 hl2 hB2 hb3)
    | (go_at_call 9; (with_reducible refine (bidi_any _).mono ?_); rintro e w4 ⟨rfl, hw4⟩; have HW4 := Lib.hid hw4; clear hw4))
  have hT4 : Blk w4 w3.heap.size 36 (tcells .i64 tab).toArray := by rw [HW4.out]; exact Blk.new w3 _ _
  have hb4 : Below w3.heap.size w3 w4 := by rw [HW4.out]; exact (Below.refl _ _).alloc (Nat.le_refl _) _
  have hRG4 := hRG.below hb4 hg2
  have hr4 := hr3.same hb4
  have hl4 := hl3.same hb4
  have hB4 := hB3.trans (hb4.mono hB3.size)
  have HCK := Lib.hid (check_any g 69 ct tabG w4 hRG4 tab_rising (by omega) (Nat.lt_of_lt_of_le hg2 hb4.size))
  obtain ⟨i, hi⟩ : ∃ i, xn % 69 = i := ⟨_, rfl⟩
  have hi8 : i < 69 := by omega
  obtain ⟨y, hy, hgy⟩ := tabG_at hi8
  have hkl : i < tabG.length := by rw [tabG_length]; exact hi8
  have HRB := Lib.hid hRG4
  have HTB := Lib.hid hT4
  have hgy2 : tabG[i] = gOf y := by rw [List.getElem?_eq_getElem hkl] at hgy; injection hgy
  have hrg := tab_rising.at hkl
  rw [hgy2] at hrg
  have hlt4 := hT4.lt
  have hg4 := Nat.lt_of_lt_of_le hg2 hb4.size
  have HR4 := Lib.hid hr4
  have HL4 := Lib.hid hl4
  clear hb4 hRG hRG4 hT4 HW4 hr3 hl3 hr4 hl4 hB3
  generalize w3.heap.size = g3 at *
  go_upto_region 7 with (go_at_call 10; (with_reducible refine HCK.out.mono ?_); rintro e w5 ⟨rfl, hb5⟩)
  have hB5 := hB4.trans (hb5.mono hB4.size)
  obtain ⟨c0, c1, c2⟩ := (HRB.out.below hb5 hg4).2 i hkl
  have hT5 := HTB.out.below hb5 hlt4
  obtain ⟨d0, d1, d2⟩ := hT5.tri hy
  have HT5 := Lib.hid hT5
  have hlt5 := hT5.lt
  have HR5 := Lib.hid (HR4.out.same hb5)
  have HL5 := Lib.hid (HL4.out.same hb5)
  simp only [Nat.zero_add] at c0 c1 c2
  rw [hgy2] at c0 c1 c2
  obtain ⟨lo, hi', v⟩ := y
  simp only [gOf] at c0 c1 c2 d0 d1 d2 hrg
  obtain ⟨r1, r2, r3, r4, r5, r6⟩ := hrg
  have x1 : ((xn : Int).tmod 69) = (i : Int) := by rw [Int.tmod_eq_emod_of_nonneg (by omega)]; omega
  have x2 : IntKind.i64.wrap (xn : Int) = (xn : Int) := IntWalk.i64_in _ (by omega)
  have x3 : IntKind.i64.wrap lo = lo := IntWalk.i64_in _ (by omega)
  have x4 : IntKind.i64.wrap hi' = hi' := IntWalk.i64_in _ (by omega)
  have x5 : IntKind.i64.wrap v = v := IntWalk.i64_in _ (by omega)
  have x6 : IntKind.i64.wrap (i : Int) = (i : Int) := IntWalk.i64_in _ (by omega)
  have y1 : (i : Int) < 69 := by omega
  clear hb5 HRB HTB HCK HR4 HL4 hy hgy hgy2 hi hT5
  go_upto_region 8 with (fail)
  go_quiet (fail)
  clear c0 c1 c2 d0 d1 d2 x1 x2 x3 x4 x5 x6 y1
  go_wp2
  go_loopw [9] (fun i wr => ∃ k : Nat, k ≤ n ∧ i = .int .i64 k ∧ Below w5.heap.size w5 wr) (fun i _ => n - (intOf i).toNat)
  case atStart => exact ⟨0, Nat.zero_le _, rfl, by first | exact Below.refl _ _ | exact drawn (Below.refl _ _) _⟩
  case round =>
    obtain ⟨k, hk, rfl, hb⟩ := hrel
    by_cases hlt : k < n
    · have hkr : k < rs.length := by rw [HL.out]; exact hlt
      obtain ⟨ad, rfl, e1⟩ := (HR5.out.same hb).cell_ (ints_at (K := .i32) hkr)
      obtain ⟨ad2, rfl, e2⟩ := (HL5.out.same hb).cell_ (show (ints .i64 (rs.map clsOf))[k]? = some (.int .i64 (clsOf rs[k])) from by simp [ints, hkr])
      have hxz := hz rs[k] (List.getElem_mem hkr)
      have hcf := cls_doc rs[k]
      have y1 : (k : Int) < (n : Int) := by omega
      have HF0 := HT5.out.below hb hlt5
      clear hz
      generalize rs[k] = q at *
      have x1 : IntKind.i64.wrap q = q := IntWalk.i64_in _ (by omega)
      have HF := Lib.hid (find_any g3 q 1 wr HF0)
      clear HF0
      rcases (show q < 0 ∨ (0 ≤ q ∧ 1114111 < q) ∨ (0 ≤ q ∧ q ≤ 1114111) from by omega) with hc | ⟨hc0, hc⟩ | ⟨hc0, hc⟩
      · rw [if_pos (.inl hc)] at hcf
        rw [hcf] at e2
        clear hcf
        go_wp2_with (go_at_call 11; (with_reducible refine HF.out.mono ?_); rintro e w6 ⟨rfl, rfl⟩)
        go_roundw
        case rel => exact ⟨k + 1, by omega, by go_num, hb⟩
        case measure => simp [intOf]; omega
      · rw [if_pos (.inr hc)] at hcf
        rw [hcf] at e2
        clear hcf
        go_wp2_with (go_at_call 11; (with_reducible refine HF.out.mono ?_); rintro e w6 ⟨rfl, rfl⟩)
        go_roundw
        case rel => exact ⟨k + 1, by omega, by go_num, hb⟩
        case measure => simp [intOf]; omega
      · rw [if_neg (by omega)] at hcf
        rw [hcf] at e2
        clear hcf
        generalize find tabG q 1 = fv at *
        go_wp2_with (go_at_call 11; (with_reducible refine HF.out.mono ?_); rintro e w6 ⟨rfl, rfl⟩)
        go_roundw
        case rel => exact ⟨k + 1, by omega, by go_num, hb⟩
        case measure => simp [intOf]; omega
    · have hge : n ≤ k := by omega
      go_wp2
      go_ret
      exact ⟨rfl, hB5.trans (hb.mono hB5.size)⟩
end Go.Proofs.Ytolmamcpjapdkaa.cw
