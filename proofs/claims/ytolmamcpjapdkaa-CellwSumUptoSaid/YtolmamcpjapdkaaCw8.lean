/-
  Layer 7: the walk of the statement CellwSum.
-/
import Derived.Test.YtolmamcpjapdkaaCw6
namespace Go.Proofs.Ytolmamcpjapdkaa.cw
open Go.RowKit tr

theorem infoRn : (Try.prog.info? 21).map (fun i => (i.zero, i.size, i.bytes)) = some (some (.int .i32 0), 1, 4) := by kernel_rfl
set_option maxRecDepth 100000 in
set_option maxHeartbeats 8000000 in
theorem sum_law (A : Option Addr) (n c : Nat) (rs : List Int) (A' : Option Addr) (n' c' : Nat) (rs' : List Int) (w : World) (hr : Rd w 1 A n (ints .i32 rs)) (_ : ∀ z ∈ rs, -2147483648 ≤ z ∧ z ≤ 2147483647)
    (hr' : Rd w 1 A' n' (ints .i32 rs')) (_ : ∀ z ∈ rs', -2147483648 ≤ z ∧ z ≤ 2147483647) (hn : n + n' ≤ 1048576) :
    Calls Try.prog 4 #[.slice A n c, .slice A' n' c'] w fun e w' => e = .returned (.bool true) ∧ Below w.heap.size w w' := by
  obtain ⟨i0, hi, hz0, hz1, hz2⟩ := info_parts infoRn
  have HL := Lib.hid (show rs.length = n by simpa using hr.1)
  have HL' := Lib.hid (show rs'.length = n' by simpa using hr'.1)
  go_enter Try.func4, Try.ntmps4
  go_upto_region 7 with (first
    | (go_at_call 6; (with_reducible refine (awake_any _).mono ?_); rintro e w1 ⟨rfl, hb1⟩; have hr1 := hr.same hb1; have hr1' := hr'.same hb1; clear hr hr')
    | (at_builtin; refine wpList_append_rd rfl (.tmp 11) (.tmp 12) 22 rfl w1.heap.size w1 w1.heap.size 21 i0 (.int .i32 0) 1 4 Try.underlying22 hi hz0 hz1 hz2 rfl (by decide) _ _ _ rfl (World.ownsRow_nil _ _ _ _) _ _ _ _ rfl hr1 ints_one (Below.refl _ _) (Nat.le_refl _) (Nat.le_refl _) (Nat.le_refl _) (by omega) (by omega) ?_; intro v2 w2 hO2 hb2 u1 u2; clear u1 u2; simp only [Nat.zero_add, List.nil_append] at hO2)
    | (at_builtin; refine wpList_append_rd rfl (.tmp 14) (.tmp 15) 22 rfl w1.heap.size w1 w1.heap.size 21 i0 (.int .i32 0) 1 4 Try.underlying22 hi hz0 hz1 hz2 rfl (by decide) _ _ _ rfl hO2 _ _ _ _ rfl (hr1'.same hb2) ints_one hb2 hb2.size (Nat.le_refl _) hb2.size (by omega) (by omega) ?_; intro v3 w3 hO3 hb3 u1 u2; clear u1 u2; have hrA := hr1.same hb3; have hrB := hr1'.same hb3; have hB3 := hb1.trans (hb3.mono hb1.size); obtain ⟨A3, c3, rfl, _, hrC0⟩ := own_slice hO3; have hrC : Rd w3 1 A3 (n + n') (ints .i32 (rs ++ rs')) := (by rw [ints, List.map_append]; exact hrC0); clear hO2 hb2 hrC0 hr1 hr1' hO3 hb3 hb1)
    | (go_at_call 7; (with_reducible refine (of_any A3 (n + n') c3 (rs ++ rs') _ hrC (by omega)).mono ?_); rintro e w4 ⟨v4, rfl, hO4, hb4⟩; have hB4 := hB3.trans (hb4.mono hB3.size); have hrA4 := hrA.same hb4; have hrB4 := hrB.same hb4; obtain ⟨A4, c4, rfl, _, hl4⟩ := own_slice hO4; clear hO4 hb4 hrA hrB hrC))
  have HL4 := Lib.hid hl4
  have HRA := Lib.hid hrA4
  have HRB := Lib.hid hrB4
  clear hl4 hrA4 hrB4
  obtain ⟨sa, hsa⟩ : ∃ sa, sumZ (rs.map clsOf) = sa := ⟨_, rfl⟩
  obtain ⟨sb, hsb⟩ : ∃ sb, sumZ (rs'.map clsOf) = sb := ⟨_, rfl⟩
  have SA := Lib.hid (fun (A : Option Addr) (c : Nat) (W : World) (h : Rd W 1 A n (ints .i64 (rs.map clsOf))) => sum_any A n c _ W h (cls_all rs) (by omega))
  have SB := Lib.hid (fun (A : Option Addr) (c : Nat) (W : World) (h : Rd W 1 A n' (ints .i64 (rs'.map clsOf))) => sum_any A n' c _ W h (cls_all rs') (by omega))
  have SC := Lib.hid (fun (A : Option Addr) (c : Nat) (W : World) (h : Rd W 1 A (n + n') (ints .i64 ((rs ++ rs').map clsOf))) => sum_any A (n + n') c _ W h (cls_all (rs ++ rs')) (by omega))
  rw [hsa] at SA
  rw [hsb] at SB
  rw [List.map_append, sumZ_append, hsa, hsb, ← List.map_append] at SC
  have b1 := sumZ_bound (cls_all rs)
  have b2 := sumZ_bound (cls_all rs')
  rw [hsa, List.length_map, HL.out] at b1
  rw [hsb, List.length_map, HL'.out] at b2
  clear hsa hsb
  obtain ⟨a1, a2⟩ := b1
  obtain ⟨a3, a4⟩ := b2
  go_wp2
  go_loop [21] (fun i => ∃ k : Nat, k ≤ n + n' ∧ i = .int .i64 k) (fun i => n + n' - (intOf i).toNat)
  case atStart => exact ⟨0, Nat.zero_le _, rfl⟩
  case round =>
    obtain ⟨k, hk, rfl⟩ := hrel
    by_cases hlt : k < n + n'
    · have hkl : k < (rs ++ rs').length := by rw [List.length_append, HL.out, HL'.out]; exact hlt
      obtain ⟨ad, rfl, e1⟩ := HL4.out.cell_ (show (ints .i64 ((rs ++ rs').map clsOf))[k]? = some (.int .i64 (clsOf (rs ++ rs')[k])) from by rw [ints, List.map_map, List.getElem?_map, List.getElem?_eq_getElem hkl]; rfl)
      have hcr := cls_range (rs ++ rs')[k]
      generalize clsOf (rs ++ rs')[k] = v at *
      obtain ⟨v1, v2⟩ := hcr
      have y1 : (k : Int) < (n : Int) + (n' : Int) := by omega
      go_wp2
      go_round
      case rel => exact ⟨k + 1, by omega, by go_num⟩
      case measure => simp [intOf]; omega
    · have hge : n + n' ≤ k := by omega
      have hl4 := HL4.out
      have hrA := HRA.out
      have hrB := HRB.out
      have HB4 := Lib.hid hB4
      clear HL4 HRA HRB hlt hB4
      go_wp2_with (first
        | (go_at_call 12; (with_reducible refine (SC.out A4 c4 _ hl4).mono ?_); rintro e ws ⟨rfl, rfl⟩)
        | (go_at_call 7; (with_reducible refine (of_any A n c rs _ hrA (by omega)).mono ?_); rintro e w5 ⟨v5, rfl, hO5, hb5⟩; have HB5 := Lib.hid (HB4.out.trans (hb5.mono HB4.out.size)); have hrB5 := hrB.same hb5; have hl45 := hl4.same hb5; obtain ⟨A5, c5, rfl, _, hl5⟩ := own_slice hO5; clear hO5 hb5 hrA hrB hl4)
        | (go_at_call 12; (with_reducible refine (SA.out A5 c5 _ hl5).mono ?_); rintro e ws ⟨rfl, rfl⟩)
        | (go_at_call 7; (with_reducible refine (of_any A' n' c' rs' _ hrB5 (by omega)).mono ?_); rintro e w6 ⟨v6, rfl, hO6, hb6⟩; have HB6 := Lib.hid (HB5.out.trans (hb6.mono HB5.out.size)); have hl46 := hl45.same hb6; obtain ⟨A6, c6, rfl, _, hl6⟩ := own_slice hO6; clear hO6 hb6 hrB5 hl45)
        | (go_at_call 12; (with_reducible refine (SB.out A6 c6 _ hl6).mono ?_); rintro e ws ⟨rfl, rfl⟩)
        | (go_at_call 12; (with_reducible refine (SC.out A4 c4 _ hl46).mono ?_); rintro e ws ⟨rfl, rfl⟩))
      all_goals go_ret
      all_goals exact ⟨by first | rfl | (refine ret_bool ?_; simp; omega), HB6.out⟩
end Go.Proofs.Ytolmamcpjapdkaa.cw
