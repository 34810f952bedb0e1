/-
  Layer 19: the walk of the statement LboneMarks.
-/
import Derived.Test.YtgkmpndebcdigaaLbq
import Derived.Test.YtgkmpndebcdigaaLbl
namespace Go.Proofs.Ytgkmpndebcdigaa.lb
open Go.RowKit

/-- the four cells of a unit in a row of units -/
theorem unit_cells {w : World} {base g n c : Nat} {us : List U} (h : w.ownsRow base 44 4 (.slice (some ⟨g, 0, none⟩) n c) n (ucells us)) {k : Nat} {u : U} (hu : us[k]? = some u) (hk : k < n) :
    w.cell? ⟨g, k * 4, none⟩ = some (.int .i64 (u.frm : Int)) ∧ w.cell? ⟨g, k * 4 + 1, none⟩ = some (.int .i64 (u.to : Int)) ∧ w.cell? ⟨g, k * 4 + 2, none⟩ = some (.int .u8 u.cls) ∧ w.cell? ⟨g, k * 4 + 3, none⟩ = some (.bool u.joined) :=
  ⟨(h.cellAt (k * 4) (by omega)).trans (ucells_at hu 0 (by omega)), (h.cellAt (k * 4 + 1) (by omega)).trans (ucells_at hu 1 (by omega)), (h.cellAt (k * 4 + 2) (by omega)).trans (ucells_at hu 2 (by omega)),
    (h.cellAt (k * 4 + 3) (by omega)).trans (ucells_at hu 3 (by omega))⟩

theorem own_some {w : World} {base : Nat} {e : TypeId} {s n : Nat} {v : Value} {xs : List Value} (h : w.ownsRow base e s v n xs) (hn : 0 < n) : ∃ g c, v = .slice (some ⟨g, 0, none⟩) n c ∧ g < w.heap.size := by
  obtain ⟨g, c, hv, _, hg⟩ := h.form hn
  exact ⟨g, c, hv, hg⟩

theorem apart_no (c : Int) (h : takes c = true) (w : World) : Calls Try.prog 29 #[.int .u8 c] w fun e w' => e = .returned (.bool false) ∧ w = w' := apart_is c true h w
theorem apart_yes (c : Int) (h : takes c = false) (w : World) : Calls Try.prog 29 #[.int .u8 c] w fun e w' => e = .returned (.bool true) ∧ w = w' := apart_is c false h w

set_option maxRecDepth 100000 in
set_option maxHeartbeats 8000000 in
theorem marks_law (A : Option Addr) (n c : Nat) (zs : List Int) (y : Int) (w : World)
    (hr : Rd w 1 A n (ints .u8 zs)) (hz : ∀ z ∈ zs, 0 ≤ z ∧ z ≤ 255) (hy : 0 ≤ y ∧ y ≤ 255) (hn : n ≤ 1048576) :
    Calls Try.prog 12 #[.slice A n c, .int .u8 y] w fun e w' => e = .returned (.bool true) ∧ Below w.heap.size w w' := by
  obtain ⟨i0, hi, hz0, hz1, hz2⟩ := info_parts info42
  obtain ⟨m, hm⟩ : ∃ m : Nat, y % 5 = m := ⟨(y % 5).toNat, by omega⟩
  have hm4 : m ≤ 4 := by omega
  have HM := Lib.hid hm
  clear hm
  go_enter Try.func12, Try.ntmps12
  go_wp2_with fail
  refine (awake19_any _).mono ?_
  rintro e w1 ⟨rfl, hb1⟩
  go_wp2_with fail
  refine (classes43_any _ _ _ zs _ (hr.same hb1) (by omega) hz).mono ?_
  rintro e w2 ⟨v2, rfl, hown2, hb2⟩
  have HL := Lib.hid (show (classes43 zs).length = n by simpa [ints] using hown2.1)
  generalize classes43 zs = cs at *
  obtain ⟨A2, c2, rfl, _, hr2⟩ := own_slice hown2
  clear hr
  go_wp2_with fail
  refine (units_any _ _ _ _ _ _ cs [] _ hr2 Rd.nil_ (by omega)).mono ?_
  rintro e w3 ⟨v3, rfl, hown3, hb3⟩
  have hcs := own_block hown2 fun g hg => hb3.block g (hown2.lt g hg).2
  have hB3 := hb2.trans (hb3.mono hb2.size)
  have hul := unitsTo_length cs [] cs.length
  have HM2 := Lib.hid (units_marks cs)
  have HE := Lib.hid (units_empty cs [])
  rw [show unitsTo cs [] cs.length = units cs [] from rfl, HL.out] at hul
  rw [HL.out] at HM2 HE
  clear hown2 hr2 hb2 hb3
  generalize units cs [] = us at *
  rcases us.eq_nil_or_concat with rfl | ⟨r, l, hrl⟩
  · have h0 : n = 0 := HE.out rfl
    clear HE HM2
    subst h0
    obtain ⟨A3, c3, rfl, _, _⟩ := own_slice hown3
    go_wp2
    go_ret
    exact ⟨rfl, hb1.trans (hB3.mono hb1.size)⟩
  · rw [List.concat_eq_append] at hrl
    subst hrl
    clear HE
    simp only [List.length_append, List.length_singleton] at hown3 hul
    obtain ⟨g3, c3, rfl, hg3⟩ := own_some hown3 (by omega)
    obtain ⟨a0, a1, a2, a3⟩ := unit_cells hown3 (k := r.length) (u := l) (by simp) (by omega)
    cases htk : takes l.cls
    · clear HM2
      go_wp2_with (go_at_call 29; refine (apart_yes _ htk _).mono ?_; rintro e w' ⟨rfl, rfl⟩)
      go_ret
      exact ⟨rfl, hb1.trans (hB3.mono hb1.size)⟩
    · obtain ⟨jj, hjj⟩ := HM2.out r l rfl htk m
      have HJ := Lib.hid hjj
      clear HM2 hjj
      have hzr : ((r.length : Int) + 1 == 0) = false := by simp; omega
      go_wp2_with (go_at_call 29; refine (apart_no _ htk _).mono ?_; rintro e w' ⟨rfl, rfl⟩)
      clear a0 a1 a2 a3
      go_loopw [5, 7] (fun v i wr => ∃ k : Nat, k ≤ m ∧ i = .int .i64 k ∧ wr.ownsRow w1.heap.size 42 1 v (n + k) (ints .u8 (cs ++ List.replicate k 3)) ∧
          wr.ownsRow w2.heap.size 44 4 (.slice (some ⟨g3, 0, none⟩) (r.length + 1) c3) (r.length + 1) (ucells (r ++ [l])) ∧ Below w1.heap.size w1 wr)
        (fun _ i _ => m - (intOf i).toNat)
      case atStart => exact ⟨0, Nat.zero_le _, rfl, by simpa using hcs, hown3, hB3⟩
      case round =>
        clear hcs hown3 hB3
        obtain ⟨k, hk, rfl, hcs, hus, hb⟩ := hrel
        by_cases hlt : k < m
        · have e5 : (k : Int) < y % 5 := by rw [HM.out]; omega
          go_wp2_with (at_builtin; refine wpList_append_one rfl (.tmp 45) (.tmp 46) 38 rfl w1.heap.size w1 w1.heap.size 42 i0 (.int .u8 0) 1 Try.underlying38 hi hz0 hz1 hz2 rfl _ _ _ rfl hcs _ _ rfl _ rfl (by simp) hb hb.size (Nat.le_refl _) hb.size (by omega) (by omega) ?_; intro v5 w5 hc1 hb1 hg1 u1; clear u1)
          go_roundw
          case rel => exact ⟨k + 1, by omega, by go_num, by simpa [ints, List.replicate_succ', Nat.add_assoc] using hc1, own_block hus (fun g hg => hg1.block g (hus.lt g hg).2 (fun h => own_own_ne hcs hus (by decide) h.symm hg)), hb1⟩
          case measure => simp [intOf]; omega
        · obtain rfl : m = k := by omega
          obtain ⟨N, hN⟩ : ∃ N, n + m = N := ⟨_, rfl⟩
          rw [hN] at hcs HJ
          have hN1 : n ≤ N := by omega
          have hN2 : N ≤ n + 4 := by omega
          clear hN
          obtain ⟨A5, c5, rfl, _, hr5⟩ := own_slice hcs
          have e5 : y % 5 ≤ (m : Int) := by rw [HM.out]; omega
          go_wp2_with fail
          refine (units_any _ _ _ _ _ _ (cs ++ List.replicate m 3) [] _ hr5 Rd.nil_ (by omega)).mono ?_
          rintro e w6 ⟨v6, rfl, hown6, hb6⟩
          rw [HJ.out] at hown6
          simp only [List.length_append, List.length_singleton] at hown6
          obtain ⟨g6, c6, rfl, hg6⟩ := own_some hown6 (by omega)
          replace hus := own_block hus fun g hg => hb6.block g (hus.lt g hg).2
          have hB6 := hb.trans (hb6.mono hb.size)
          clear hcs hr5 hb hb6
          go_wp2
          go_loopw [9] (fun i wr => ∃ k : Nat, k ≤ r.length ∧ i = .int .i64 k ∧ Below w6.heap.size w6 wr)
            (fun i _ => r.length - (intOf i).toNat)
          case atStart => exact ⟨0, Nat.zero_le _, rfl, Below.refl _ _⟩
          case round =>
            obtain ⟨k, hk, rfl, hb⟩ := hrel
            have hus' := own_block hus fun g hg => hb.block g (hus.lt g hg).2
            have hob' := own_block hown6 fun g hg => hb.block g (hown6.lt g hg).2
            by_cases hlt : k < r.length
            · have hrk : r[k]? = some r[k] := List.getElem?_eq_getElem hlt
              obtain ⟨p0, p1, p2, p3⟩ := unit_cells hus' (k := k) (u := r[k]) (by rw [List.getElem?_append_left hlt]; exact hrk) (by omega)
              obtain ⟨q0, q1, q2, q3⟩ := unit_cells hob' (k := k) (u := r[k]) (by rw [List.getElem?_append_left hlt]; exact hrk) (by omega)
              clear hus' hob' hus hown6 hrk
              generalize r[k] = u at *
              go_wp2
              go_quiet (fail)
              go_wp2
              go_roundw
              case rel => exact ⟨k + 1, by omega, by go_num, by first | exact hb | exact hb.drew | exact drawn hb _⟩
              case measure => simp [intOf]; omega
            · obtain rfl : k = r.length := by omega
              obtain ⟨p0, p1, p2, p3⟩ := unit_cells hus' (k := r.length) (u := l) (by simp) (by omega)
              obtain ⟨q0, q1, q2, q3⟩ := unit_cells hob' (k := r.length) (u := ⟨l.frm, N, l.cls, jj⟩) (by simp) (by omega)
              have hbf := hb1.trans ((hB6.trans (hb.mono hB6.size)).mono hb1.size)
              clear hus' hob' hus hown6 hb hB6
              go_upto_region 20 with (fail)
              have hlit := World.ownsRow_lit (base := wr.heap.size) (e := 44) (size := 4) wr #[.int .i64 (l.frm : Int), .int .i64 (N : Int), .int .u8 l.cls, .bool jj] 1 (Nat.le_refl _) (by unfold maxLen; omega) rfl
              have f0 := hlit.cellAt 0 (by omega)
              have f1 := hlit.cellAt 1 (by omega)
              have f2 := hlit.cellAt 2 (by omega)
              simp only [List.getElem?_cons_succ, List.getElem?_cons_zero] at f0 f1 f2
              have y0 := (World.cell?_alloc_lt wr (.cells #[.int .i64 (l.frm : Int), .int .i64 (N : Int), .int .u8 l.cls, .bool jj] 44) _ (World.block_lt_of_cell? wr _ p0)).trans p0
              have y2 := (World.cell?_alloc_lt wr (.cells #[.int .i64 (l.frm : Int), .int .i64 (N : Int), .int .u8 l.cls, .bool jj] 44) _ (World.block_lt_of_cell? wr _ p2)).trans p2
              have hb' := hbf.alloc hbf.size (.cells #[.int .i64 (l.frm : Int), .int .i64 (N : Int), .int .u8 l.cls, .bool jj] 44)
              clear p0 p1 p2 p3 q0 q1 q2 q3 hlit hbf
              generalize wr.alloc (.cells #[.int .i64 (l.frm : Int), .int .i64 (N : Int), .int .u8 l.cls, .bool jj] 44) = W5 at *
              generalize wr.heap.size = b0 at *
              go_wp2
              go_quiet (fail)
              go_wp2
              go_ret
              exact ⟨rfl, drawn hb' _⟩
end Go.Proofs.Ytgkmpndebcdigaa.lb
