/-
  Layer 22: the walk of the statement MeasureSpaces.
-/
import Derived.Test.YtmonkeencbhcmaaMee
namespace Go.Proofs.Ytmonkeencbhcmaa.me
open Go.RowKit lb

theorem own_take {w : World} {base : Nat} {e : TypeId} {n c k : Nat} {A : Option Addr} {xs : List Value} (h : w.ownsRow base e 1 (.slice A n c) n xs) (hk : k ≤ n) : w.ownsRow base e 1 (.slice A k c) k (xs.take k) := by
  refine ⟨by have := h.1; simp at this ⊢; omega, ?_⟩
  rcases h.2 with ⟨hv, hx⟩ | ⟨g, cap, cur, hv, hb, hg, hc, hm, hs, hp⟩
  · left
    injection hv with h1 h2 h3
    have hk0 : k = 0 := by omega
    subst h1; subst h3; subst hx; subst hk0
    exact ⟨rfl, rfl⟩
  · right
    injection hv with h1 h2 h3
    subst h1; subst h3
    refine ⟨g, c, cur, rfl, hb, hg, by omega, hm, hs, ?_⟩
    rw [← hp, List.take_take]; congr 1; omega

theorem sumTo_app (a b : List Int) (q : Nat) (h : q ≤ a.length) : sumTo (a ++ b) q = sumTo a q := by rw [sumTo, sumTo, List.take_append_of_le_length h]
theorem solidTo_app (a b : List Int) (q : Nat) (h : q ≤ a.length) : solidTo (a ++ b) q = solidTo a q := by
  induction q with
  | zero => rfl
  | succ q ih => rw [solidTo, solidTo, ih (by omega), List.getD_eq_getElem?_getD, List.getD_eq_getElem?_getD, List.getElem?_append_left (by omega)]
theorem solidTo_spaces (a : List Int) (s q : Nat) (h : q ≤ s) : solidTo (a ++ List.replicate s 9) (a.length + q) = solidTo a a.length := by
  induction q with
  | zero => exact solidTo_app a _ _ (Nat.le_refl _)
  | succ q ih =>
    have e : (a ++ List.replicate s (9 : Int)).getD (a.length + q) 0 = 9 := by
      rw [List.getD_eq_getElem?_getD, List.getElem?_append_right (by omega), show a.length + q - a.length = q from by omega, List.getElem?_replicate, if_pos (by omega)]; rfl
    rw [← Nat.add_assoc, solidTo, ih (by omega), e]
    rfl
def spW (k : Nat) : List Int := (List.range k).map fun (j : Nat) => 1 + (j : Int) % 2
theorem spW_succ (k : Nat) : spW (k + 1) = spW k ++ [1 + (k : Int) % 2] := by simp [spW, List.range_succ]
theorem spW_bd (k : Nat) : ∀ z ∈ spW k, 0 ≤ z ∧ z ≤ 2 := by
  intro z hz
  simp only [spW, List.mem_map] at hz
  obtain ⟨j, _, rfl⟩ := hz
  omega

set_option maxRecDepth 100000 in
set_option maxHeartbeats 4000000 in
theorem spaces_law (A : Option Addr) (n c : Nat) (zs : List Int) (A' : Option Addr) (n' c' : Nat) (zs' : List Int) (x : Int) (w : World)
    (hr : Rd w 1 A n (ints .u8 zs)) (hz : ∀ z ∈ zs, 0 ≤ z ∧ z ≤ 255) (hr' : Rd w 1 A' n' (ints .u8 zs')) (hz' : ∀ z ∈ zs', 0 ≤ z ∧ z ≤ 255)
    (hx : 0 ≤ x ∧ x ≤ 255) (hn : n + n' ≤ 1048576) :
    Calls Try.prog 5 #[.slice A n c, .slice A' n' c', .int .u8 x] w fun e w' => e = .returned (.bool true) ∧ Below w.heap.size w w' := by
  obtain ⟨i0, hi, hz0, hz1, hz2⟩ := info_parts infoCl
  obtain ⟨j0, hj, hy0, hy1, hy2⟩ := info_parts infoI
  obtain ⟨s, hs6⟩ : ∃ s : Nat, x % 9 = s := ⟨(x % 9).toNat, by omega⟩
  have hs8 : s ≤ 8 := by omega
  have H6 := Lib.hid hs6
  clear hs6
  go_enter Try.func5, Try.ntmps5
  go_wp2_with fail
  refine (awake22_any _).mono ?_
  rintro e w1 ⟨rfl, hb1⟩
  go_wp2_with fail
  refine (widths_any _ _ _ zs _ (hr.same hb1) (by omega) hz).mono ?_
  rintro e w2 ⟨v2, rfl, hown2, hb2⟩
  have hB2 := hb1.trans (hb2.mono hb1.size)
  go_wp2_with fail
  refine (classes43_any _ _ _ zs' _ (hr'.same hB2) (by omega) hz').mono ?_
  rintro e w3 ⟨v3, rfl, hown3, hb3⟩
  obtain ⟨A2, c2, rfl, hc2, _⟩ := own_slice hown2
  obtain ⟨A3, c3, rfl, hc3, _⟩ := own_slice hown3
  replace hown2 := own_block hown2 fun g hg => hb3.block g (hown2.lt g hg).2
  have hB1 : Below w1.heap.size w1 w3 := hb2.trans (hb3.mono hb2.size)
  have HW := Lib.hid (widths_bd zs)
  have hs12 := hb2.size
  have hs23 := hb3.size
  clear hb2 hb3 hB2 hr hr' hz hz'
  generalize widths zs = ws at *
  generalize classes43 zs' = cs at *
  have HL2 := Lib.hid (show ws.length = n by simpa [ints] using hown2.1)
  have HL3 := Lib.hid (show cs.length = n' by simpa [ints] using hown3.1)
  obtain ⟨m, hm⟩ : ∃ m, min n n' = m := ⟨_, rfl⟩
  have hmn : m ≤ n := by omega
  have hmn1 : m ≤ n' := by omega
  have hm' : m = n ∨ m = n' := by omega
  clear hm
  go_upto_region 4 with (fail)
  go_cut [9] (fun s wx => s = .int .i64 (m : Int) ∧ wx = w3)
  case first =>
    go_wp2
    all_goals (go_meet; exact ⟨by first | rfl | (congr 1; omega), rfl⟩)
  case rest =>
    obtain ⟨rfl, rfl⟩ := hcut
    have k2 : m ≤ c2 := Nat.le_trans hmn hc2
    have k3 : m ≤ c3 := Nat.le_trans hmn1 hc3
    go_upto_region 5 with (fail)
    go_quiet (fail)
    have o2 := own_take hown2 hmn
    have o3 := own_take hown3 hmn1
    replace o2 : (wc.drewN nq).ownsRow w1.heap.size 3 1 (.slice A2 m c2) m ((ints .i64 ws).take m) := o2
    replace o3 : (wc.drewN nq).ownsRow w2.heap.size 31 1 (.slice A3 m c3) m ((ints .u8 cs).take m) := o3
    have hBd : Below w1.heap.size w1 (wc.drewN nq) := drawn hB1 nq
    have hs2d : w2.heap.size ≤ (wc.drewN nq).heap.size := hs23
    clear hown2 hown3 hB1
    simp only [ints, ← List.map_take] at o2 o3
    have HV : Hid (∀ z ∈ ws.take m, 0 ≤ z ∧ z ≤ 2) := fun z hz => HW.out z (List.mem_of_mem_take hz)
    replace HL2 := Lib.hid (show (ws.take m).length = m by rw [List.length_take, HL2.out]; omega)
    replace HL3 := Lib.hid (show (cs.take m).length = m by rw [List.length_take, HL3.out]; omega)
    generalize ws.take m = us at *
    generalize cs.take m = ds at *
    clear HW
    generalize wc.drewN nq = wd at *
    go_wp2_with fail
    refine (of_keep _ _ _ _ _ _ us ds _ (Rd.of_own o2) (Rd.of_own o3) (by omega) HV.out).mono ?_
    rintro e w4 ⟨v4, rfl, h4, hb4, hk4⟩
    rw [Nat.min_self] at h4 hk4
    have p2 : ∀ g, Value.ownBlock (.slice A2 m c2) = some g → g < wd.heap.size ∨ w4.heap.size ≤ g := fun g hg => .inl (o2.lt g hg).2
    have p3 : ∀ g, Value.ownBlock (.slice A3 m c3) = some g → g < wd.heap.size ∨ w4.heap.size ≤ g := fun g hg => .inl (o3.lt g hg).2
    replace o2 := own_block o2 fun g hg => hb4.block g (o2.lt g hg).2
    replace o3 := own_block o3 fun g hg => hb4.block g (o3.lt g hg).2
    have hB4 := hBd.trans (hb4.mono hBd.size)
    obtain ⟨b, hv⟩ : ∃ b, v4 = .pointer (some ⟨b, 0, none⟩) := by
      obtain ⟨b, _, _, _, rfl, _⟩ := h4.ex
      exact ⟨b, rfl⟩
    subst hv
    have HK := Lib.hid hk4
    have hd4 := hb4.size
    clear h4 hb4 hBd hk4
    go_wp2
    go_loopw [7, 8, 11] (fun p q i wr => ∃ k : Nat, k ≤ s ∧ i = .int .i64 k ∧ wr.ownsRow w1.heap.size 3 1 p (m + k) (ints .i64 (us ++ spW k)) ∧
        wr.ownsRow w2.heap.size 31 1 q (m + k) (ints .u8 (ds ++ List.replicate k 9)) ∧ Below w1.heap.size w1 wr ∧ w4.heap.size ≤ wr.heap.size ∧
        (∀ g, p.ownBlock = some g → g < wd.heap.size ∨ w4.heap.size ≤ g) ∧ (∀ g, q.ownBlock = some g → g < wd.heap.size ∨ w4.heap.size ≤ g) ∧
        (∀ g, wd.heap.size ≤ g → g < w4.heap.size → wr.heap[g]? = w4.heap[g]?))
      (fun _ _ i _ => s - (intOf i).toNat)
    case atStart => exact ⟨0, Nat.zero_le _, rfl, by simpa [spW, ints] using o2, by simpa [ints] using o3, hB4, Nat.le_refl _, p2, p3, fun _ _ _ => rfl⟩
    case round =>
      clear o2 o3 hB4 p2 p3
      obtain ⟨k, hk, rfl, o2, o3, hb, hs4, p2, p3, hfr⟩ := hrel
      have e6 := H6.out
      by_cases hlt : k < s
      · have HP2 := Lib.hid p2
        have HP3 := Lib.hid p3
        have HF := Lib.hid hfr
        clear p2 p3 hfr
        go_wp2_with (first
          | (at_builtin; refine wpList_append_one rfl (.tmp 40) (.tmp 44) 24 rfl w1.heap.size w1 w1.heap.size 3 j0 (.int .i64 0) 8 Try.underlying24 hj hy0 hy1 hy2 rfl _ _ _ rfl o2 _ _ rfl _ rfl (by simp) hb hb.size (Nat.le_refl _) hb.size (by omega) (by omega) ?_; intro l5 w5 o21 hb1 hg1 ha1; have o31 := own_block o3 (fun g hg => hg1.block g (o3.lt g hg).2 (fun h => own_own_ne o2 o3 (by decide) h.symm hg)))
          | (at_builtin; refine wpList_append_one rfl (.tmp 46) (.tmp 47) 26 rfl w1.heap.size w1 w2.heap.size 31 i0 (.int .u8 0) 1 Try.underlying26 hi hz0 hz1 hz2 rfl _ _ _ rfl o31 _ _ rfl _ rfl (by simp) hb1 hb1.size hs12 (by have := hg1.size; omega) (by omega) (by omega) ?_; intro v5 w6 o32 hb2 hg2 ha2; have o22 := own_block o21 (fun g hg => hg2.block g (o21.lt g hg).2 (fun h => own_own_ne o31 o21 (by decide) h.symm hg))))
        go_roundw
        case rel =>
          refine ⟨k + 1, by omega, by go_num, by simpa [spW_succ, ints, Nat.add_assoc] using o22, by simpa [ints, List.replicate_succ', Nat.add_assoc] using o32, hb2, ?_, ?_, ?_, ?_⟩
          · have := hg1.size; have := hg2.size; omega
          · intro g hg
            rcases ha1 with h | ⟨g', h, hle⟩
            · exact HP2.out g (h ▸ hg)
            · right; rw [h] at hg; injection hg with hg; omega
          · intro g hg
            rcases ha2 with h | ⟨g', h, hle⟩
            · exact HP3.out g (h ▸ hg)
            · right; rw [h] at hg; injection hg with hg; have := hg1.size; omega
          · intro g hg hg'
            have e1 := hg1.block g (by omega) (fun h => by have := HP2.out g h.symm; omega)
            have e2 := hg2.block g (by have := hg1.size; omega) (fun h => by have := HP3.out g h.symm; omega)
            exact (e2.trans e1).trans (HF.out g hg hg')
        case measure => simp [intOf]; omega
      · obtain rfl : s = k := by omega
        have h4 : Rul wr (.pointer (some ⟨b, 0, none⟩)) m us ds := HK.out wr hfr
        clear hfr p2 p3
        obtain ⟨N, hN⟩ : ∃ N, m + s = N := ⟨_, rfl⟩
        have HN := Lib.hid hN
        have hN1 : m ≤ N := by omega
        have hN2 : N ≤ 1048576 + 8 := by omega
        have HV2 : Hid (∀ z ∈ us ++ spW s, 0 ≤ z ∧ z ≤ 2) := fun z hz => by
          rcases List.mem_append.1 hz with h | h
          · exact HV.out z h
          · exact spW_bd s z h
        rw [hN] at o2 o3
        obtain ⟨A5, c5, rfl, _, l5⟩ := own_slice o2
        obtain ⟨A6, c6, rfl, _, l6⟩ := own_slice o3
        clear o2 o3 hN hs4
        go_wp2_with fail
        refine (of_any _ _ _ _ _ _ (us ++ spW s) (ds ++ List.replicate s 9) _ l5 l6 (by omega) HV2.out).mono ?_
        rintro e w9 ⟨v9, rfl, h9, hb9⟩
        rw [Nat.min_self] at h9
        replace h4 := h4.same hb9
        have hB9 := hb1.trans ((hb.trans (hb9.mono hb.size)).mono hb1.size)
        obtain ⟨b9, hv⟩ : ∃ b, v9 = .pointer (some ⟨b, 0, none⟩) := by
          obtain ⟨b, _, _, _, rfl, _⟩ := h9.ex
          exact ⟨b, rfl⟩
        subst hv
        have H9 := Lib.hid h9
        have H4 := Lib.hid h4
        clear h9 h4 hb9 hb hb1 l5 l6
        have hw := HV.out
        have hw2 := HV2.out
        have hl2 := HL2.out
        have hl3 := HL3.out
        have E1 : shownOf (us ++ spW s) (ds ++ List.replicate s 9) N 0 N = shownOf us ds m 0 m := by
          have h1 := shown_eq (us ++ spW s) (ds ++ List.replicate s 9) N 0 N (may_yes N 0 N (by omega) (Nat.le_refl _))
          have h2 := shown_eq us ds m 0 m (may_yes m 0 m (by omega) (Nat.le_refl _))
          have h3 := solidTo_spaces ds s s (Nat.le_refl _)
          have h4 := solidTo_le ds m
          rw [hl3, HN.out] at h3
          rw [show ((0 : Nat) : Int) = 0 from rfl] at h1 h2
          rw [h1, h2, shTo, shTo, h3, Nat.zero_max, sumTo_app _ _ _ (by omega)]
          rfl
        have E2 : cellsOf (us ++ spW s) N 0 m = cellsOf us m 0 m := by
          have h1 := cells_eq (us ++ spW s) N 0 m (may_yes N 0 m (by omega) hN1)
          have h2 := cells_eq us m 0 m (may_yes m 0 m (by omega) (Nat.le_refl _))
          rw [show ((0 : Nat) : Int) = 0 from rfl] at h1 h2
          rw [h1, h2, sumTo_app _ _ _ (by omega)]
          rfl
        have E3 : wholeOf us m m = true := by rw [wholeOf]; simp
        have E4 : wholeOf (us ++ spW s) N N = true := by rw [wholeOf]; simp
        have T0 := Lib.hid fun W (h : Rul W (.pointer (some ⟨b9, 0, none⟩)) N (us ++ spW s) (ds ++ List.replicate s 9)) => count_any W _ _ _ _ h
        have T1 := Lib.hid fun W (h : Rul W (.pointer (some ⟨b9, 0, none⟩)) N (us ++ spW s) (ds ++ List.replicate s 9)) => shown_is W _ _ _ _ h 0 N _ (by omega) hw2 E1
        have T2 := Lib.hid fun W (h : Rul W (.pointer (some ⟨b, 0, none⟩)) m us ds) => shown_is W _ _ _ _ h 0 m _ (by omega) hw rfl
        have T3 := Lib.hid fun W (h : Rul W (.pointer (some ⟨b9, 0, none⟩)) N (us ++ spW s) (ds ++ List.replicate s 9)) => cells_is W _ _ _ _ h 0 m _ (by omega) hw2 E2
        have T4 := Lib.hid fun W (h : Rul W (.pointer (some ⟨b, 0, none⟩)) m us ds) => cells_is W _ _ _ _ h 0 m _ (by omega) hw rfl
        have T5 := Lib.hid fun W (h : Rul W (.pointer (some ⟨b, 0, none⟩)) m us ds) => whole_is W _ _ _ _ h m true (by omega) E3
        have T6 := Lib.hid fun W (h : Rul W (.pointer (some ⟨b9, 0, none⟩)) N (us ++ spW s) (ds ++ List.replicate s 9)) => whole_is W _ _ _ _ h N true (by omega) E4
        clear E1 E2 E3 E4 hl2 hl3 hw hw2
        go_wp2_with (first
          | (go_at_call 14; (with_reducible refine (T0.out _ H9.out).mono ?_); rintro e w' ⟨rfl, rfl⟩)
          | (go_at_call 16; (with_reducible refine (T1.out _ H9.out).mono ?_); rintro e x1 ⟨rfl, g1, hb1⟩; have G1 := Lib.hid g1; have F1 := Lib.hid (H4.out.same hb1); replace hX1 := hB9.trans (hb1.mono hB9.size); clear g1 hb1)
          | (go_at_call 16; (with_reducible refine (T2.out _ F1.out).mono ?_); rintro e x2 ⟨rfl, g2, hb2⟩; have F2 := Lib.hid g2; have G2 := Lib.hid (G1.out.same hb2); replace hX2 := hX1.trans (hb2.mono hX1.size); clear g2 hb2)
          | (go_at_call 15; (with_reducible refine (T3.out _ G2.out).mono ?_); rintro e x3 ⟨rfl, g3, hb3⟩; have G3 := Lib.hid g3; have F3 := Lib.hid (F2.out.same hb3); replace hX3 := hX2.trans (hb3.mono hX2.size); clear g3 hb3)
          | (go_at_call 15; (with_reducible refine (T4.out _ F3.out).mono ?_); rintro e x4 ⟨rfl, g4, hb4⟩; have F4 := Lib.hid g4; have G4 := Lib.hid (G3.out.same hb4); replace hX4 := hX3.trans (hb4.mono hX3.size); clear g4 hb4)
          | (go_at_call 17; (with_reducible refine (T5.out _ F4.out).mono ?_); rintro e x5 ⟨rfl, g5, hb5⟩; have F5 := Lib.hid g5; have G5 := Lib.hid (G4.out.same hb5); replace hX5 := hX4.trans (hb5.mono hX4.size); clear g5 hb5)
          | (go_at_call 17; (with_reducible refine (T6.out _ G5.out).mono ?_); rintro e x6 ⟨rfl, g6, hb6⟩; replace hX6 := hX5.trans (hb6.mono hX5.size); clear g6 hb6))
        all_goals go_ret
        all_goals exact ⟨ret_bool (by first | rfl | simp), hX6⟩
end Go.Proofs.Ytmonkeencbhcmaa.me
