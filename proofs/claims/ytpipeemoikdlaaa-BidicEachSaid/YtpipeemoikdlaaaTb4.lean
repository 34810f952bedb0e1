/-
  The table as ranges: the contracts of Table and of the document's Find over the program.
-/
import Derived.Test.YtpipeemoikdlaaaTb2
import Derived.Test.YtpipeemoikdlaaaTbg
namespace Go.Proofs.Ytpipeemoikdlaaa.tr
open Go.RowKit

def tabG : List G := tab.map gOf
theorem tabG_length : tabG.length = 188 := by rw [tabG, List.length_map, tab_length]
theorem tab_rising : Rising (-1) tabG := rising_of (by kernel_rfl)
theorem tabG_at {k : Nat} (h : k < 188) : ∃ x, tab[k]? = some x ∧ tabG[k]? = some (gOf x) := by
  have hk : k < tab.length := by rw [tab_length]; exact h
  exact ⟨tab[k], List.getElem?_eq_getElem hk, by rw [tabG, List.getElem?_map, List.getElem?_eq_getElem hk]; rfl⟩


set_option maxHeartbeats 4000000 in
theorem table_any (w : World) : Calls Try.prog 9 #[] w fun e w' => ∃ g c, e = .returned (.slice (some ⟨g, 0, none⟩) 188 c) ∧ 188 ≤ c ∧ w.heap.size ≤ g ∧ g < w'.heap.size ∧ RG w' g 0 188 tabG ∧ Below w.heap.size w w' := by
  obtain ⟨i0, hi, hz0, hz1, hz2⟩ := info_parts infoG
  go_enter Try.func9, Try.ntmps9
  go_wp2_with (go_at_call 18; (with_reducible refine (rows_any _).mono ?_); rintro e w1 ⟨rfl, hw1⟩; have HW1 := Lib.hid hw1; clear hw1)
  have hT1 : Blk w1 w.heap.size 47 (tcells .i32 tab).toArray := by rw [HW1.out]; exact Blk.new w _ _
  have hb1 : Below w.heap.size w w1 := by rw [HW1.out]; exact (Below.refl _ _).alloc (Nat.le_refl _) _
  have hlt1 := hT1.lt
  clear HW1
  go_loopw [1, 6] (fun v i wr => ∃ k : Nat, k ≤ 188 ∧ i = .int .i64 k ∧ wr.ownsRow w1.heap.size 32 3 v k (gcells (tabG.take k)) ∧ Below w1.heap.size w1 wr)
    (fun _ i _ => 188 - (intOf i).toNat)
  case atStart => exact ⟨0, Nat.zero_le _, rfl, World.ownsRow_nil _ _ _ _, Below.refl _ _⟩
  case round =>
    obtain ⟨k, hk, rfl, hO, hb⟩ := hrel
    by_cases hlt : k < 188
    · obtain ⟨x, hx, hgx⟩ := tabG_at hlt
      obtain ⟨c0, c1, c2⟩ := (hT1.below hb hlt1).tri hx
      have hkl : k < tabG.length := by rw [tabG_length]; exact hlt
      have HT : Hid (tabG.take (k + 1) = tabG.take k ++ [gOf x]) := by
        show _ = _
        rw [List.take_add_one, hgx]; rfl
      obtain ⟨r1, r2, r3, r4, r5, r6⟩ := tab_rising.at hkl
      have hgx2 : tabG[k] = gOf x := by rw [List.getElem?_eq_getElem hkl] at hgx; injection hgx
      rw [hgx2] at r1 r2 r3 r4 r5 r6
      obtain ⟨lo, hi', v⟩ := x
      simp only [gOf] at *
      have y1 : (k : Int) < 188 := by omega
      have x1 : IntKind.u8.wrap v = v := by simp [IntKind.wrap, IntKind.signed, IntKind.bits]; omega
      clear hgx2 hx hgx
      go_upto_region 5 with (fail)
      have hU := Blk.new wr 47 #[.int .i32 lo, .int .i32 hi', .int .i32 v]
      have hb2 := hb.alloc hb.size (.cells #[.int .i32 lo, .int .i32 hi', .int .i32 v] 47)
      have hO2 := hO.alloc (.cells #[.int .i32 lo, .int .i32 hi', .int .i32 v] 47)
      have u0 := hU.cell 0
      have u1 := hU.cell 1
      have u2 := hU.cell 2
      simp only [List.getElem?_toArray, List.getElem?_cons_zero, List.getElem?_cons_succ] at u0 u1 u2
      clear hU hb hO c0 c1 c2
      generalize wr.alloc (.cells #[.int .i32 lo, .int .i32 hi', .int .i32 v] 47) = W1 at *
      generalize wr.heap.size = bu at *
      go_wp2_with (at_builtin; refine wpList_append_new rfl (.tmp 10) (.tmp 19) 24 rfl w1.heap.size w1 w1.heap.size 32 i0 _ 3 12 Try.underlying24 hi hz0 hz1 hz2 rfl (by decide) _ _ _ rfl hO2 _ _ rfl g_one _ rfl (by simp) hb2 hb2.size (Nat.le_refl _) hb2.size (by omega) (by omega) ?_; intro v' w3 hO3 hb3 u5 u6; clear u5 u6)
      go_roundw
      case rel => exact ⟨k + 1, by omega, by go_num, by rw [HT.out, gcells_append]; simpa [gcells, gcells1] using hO3, hb3⟩
      case measure => simp [intOf]; omega
    · obtain rfl : k = 188 := by omega
      rw [List.take_of_length_le (by rw [tabG_length]; exact Nat.le_refl _)] at hO
      obtain ⟨g, c, rfl, hg1, hg2⟩ := hO.form (by omega)
      obtain ⟨A, c', hv, hcc, _⟩ := own_slice hO
      cases hv
      go_wp2
      go_ret
      exact ⟨g, c, rfl, hcc, by omega, hg2, RG.of_own tabG_length hO, hb1.trans (hb.mono (by omega))⟩

set_option maxHeartbeats 4000000 in
theorem find_any (g : Nat) (r o : Int) (w : World) (hT : Blk w g 33 (tcells .i64 tab).toArray) :
    Calls Try.prog 13 #[.slice (some ⟨g, 0, none⟩) 188 188, .int .i64 r, .int .i64 o] w fun e w' => e = .returned (.int .i64 (find tabG r o)) ∧ w = w' := by
  go_enter Try.func13, Try.ntmps13
  go_wp2
  go_loop [7] (fun i => ∃ k : Nat, k ≤ 188 ∧ i = .int .i64 k ∧ find tabG r o = find (tabG.drop k) r o) (fun i => 188 - (intOf i).toNat)
  case atStart => exact ⟨0, Nat.zero_le _, rfl, rfl⟩
  case round =>
    obtain ⟨k, hk, rfl, hs⟩ := hrel
    by_cases hlt : k < 188
    · obtain ⟨x, hx, hgx⟩ := tabG_at hlt
      obtain ⟨c0, c1, c2⟩ := hT.tri hx
      have hkl : k < tabG.length := by rw [tabG_length]; exact hlt
      have hd : tabG.drop k = gOf x :: tabG.drop (k + 1) := by
        rw [List.drop_eq_getElem_cons hkl]
        rw [List.getElem?_eq_getElem hkl] at hgx
        injection hgx with hgx
        rw [hgx]
      rw [hd, find] at hs
      have HS := Lib.hid hs
      obtain ⟨lo, hi, v⟩ := x
      simp only [gOf] at *
      have y1 : (k : Int) < 188 := by omega
      clear hs hd hx hgx hT
      rcases (show (lo ≤ r ∧ r ≤ hi) ∨ (lo ≤ r ∧ hi < r) ∨ r < lo from by omega) with ⟨h1, h2⟩ | ⟨h1, h2⟩ | h1
      · have HF : Hid (find tabG r o = v) := HS.out.trans (if_pos ⟨h1, h2⟩)
        clear HS
        go_wp2
        go_ret
        exact ⟨ret_int HF.out.symm, rfl⟩
      · have HF : Hid (find tabG r o = find (tabG.drop (k + 1)) r o) := HS.out.trans (if_neg (by omega))
        have d1 : decide (r ≤ hi) = false := by simp; omega
        clear HS
        go_wp2
        go_round
        case rel => exact ⟨k + 1, by omega, by go_num, HF.out⟩
        case measure => simp [intOf]; omega
      · have HF : Hid (find tabG r o = find (tabG.drop (k + 1)) r o) := HS.out.trans (if_neg (by omega))
        have d1 : decide (lo ≤ r) = false := by simp; omega
        clear HS
        go_wp2
        go_round
        case rel => exact ⟨k + 1, by omega, by go_num, HF.out⟩
        case measure => simp [intOf]; omega
    · obtain rfl : k = 188 := by omega
      have HF : Hid (find tabG r o = o) := by
        show _ = _
        rw [hs, List.drop_eq_nil_of_le (by rw [tabG_length]; exact Nat.le_refl _)]; rfl
      clear hs hT
      go_wp2
      go_ret
      exact ⟨ret_int HF.out.symm, rfl⟩
end Go.Proofs.Ytpipeemoikdlaaa.tr
