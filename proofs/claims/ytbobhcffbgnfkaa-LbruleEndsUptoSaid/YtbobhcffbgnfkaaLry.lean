/-
  Layer 20: the walk of the statement LbruleEnds.
-/
import Derived.Test.YtbobhcffbgnfkaaLrw
namespace Go.Proofs.Ytbobhcffbgnfkaa.lr
open Go.RowKit lb

theorem getD_vs (cs : List Int) (k : Nat) : ((vs cs).getD k (0, false)).1 = cs.getD k 0 := by
  rw [List.getD_eq_getElem?_getD, List.getD_eq_getElem?_getD, vs, List.getElem?_map]
  cases cs[k]? <;> rfl
theorem units_at (cs : List Int) (k : Nat) (h : k < cs.length) : (unitsOf cs)[k]? = some ⟨k, k + 1, cs.getD k 0, false⟩ := by simp [unitsOf, h]

/-- what is said of one boundary -/
theorem ends_one (cs : List Int) (j : Nat) (_ : j + 1 < cs.length) :
    (statusAt (vs cs) (j + 1) == 2) = mustB (cs.getD j 0) (cs.getD (j + 1) 0) ∧ (mustB (cs.getD j 0) (cs.getD (j + 1) 0) = false → cs.getD (j + 1) 0 = 9 → statusAt (vs cs) (j + 1) = 0) := by
  have hl : (stateTo (vs cs) (j + 1)).last = cs.getD j 0 := by rw [last_state, getD_vs]
  rw [statusAt, if_neg (by omega), getD_vs, ahead_two, hl]
  refine ⟨rfl, fun h1 h2 => ?_⟩
  rw [h2] at h1 ⊢
  exact ahead_space _ _ (by rw [hl]; exact h1)

set_option maxRecDepth 100000 in
set_option maxHeartbeats 8000000 in
theorem ends_law (A : Option Addr) (n c : Nat) (zs : List Int) (w : World)
    (hr : Rd w 1 A n (ints .u8 zs)) (hz : ∀ z ∈ zs, 0 ≤ z ∧ z ≤ 255) (hn : n ≤ 1048576) :
    Calls Try.prog 4 #[.slice A n c] w fun e w' => e = .returned (.bool true) ∧ Below w.heap.size w w' := by
  go_enter Try.func4, Try.ntmps4
  go_wp2_with fail
  refine (awake20_any _).mono ?_
  rintro e w1 ⟨rfl, hb1⟩
  go_wp2_with fail
  refine (classes43_any _ _ _ zs _ (hr.same hb1) (by omega) hz).mono ?_
  rintro e w2 ⟨v2, rfl, hown2, hb2⟩
  have hB2 := hb1.trans (hb2.mono hb1.size)
  obtain ⟨A2, c2, rfl, _, hl2⟩ := own_slice hown2
  clear hown2 hb1 hb2 hr hz
  generalize classes43 zs = cs at *
  have HL := Lib.hid (show cs.length = n by simpa using hl2.1)
  go_wp2_with fail
  refine (of_any _ _ _ cs _ hl2 (by omega)).mono ?_
  rintro e w3 ⟨v3, rfl, hown3, hb3⟩
  have hB3 := hB2.trans (hb3.mono hB2.size)
  obtain ⟨A3, c3, rfl, _, _⟩ := own_slice hown3
  go_wp2_with fail
  refine (between_any _ _ _ _ (unitsOf cs) _ hown3 (by omega)).mono ?_
  rintro e w4 ⟨v4, rfl, hown4, hb4⟩
  rw [vOf_of] at hown4
  have hB4 := hB3.trans (hb4.mono hB3.size)
  replace hown3 := own_block hown3 fun g hg => hb4.block g (hown3.lt g hg).2
  obtain ⟨A4, c4, rfl, _, hl4⟩ := own_slice hown4
  clear hb3 hb4 hB2 hB3 hown4 hl2
  have HLs := Lib.hid (show (between (vs cs)).length = n by rw [between_length, vs_length, HL.out])
  have HE := Lib.hid (fun j hj => ends_one cs j hj)
  have hfirst : Hid (0 < n → ∃ ad, A4 = some ad ∧ w4.cell? (ad.add 0) = some (.int .i64 0)) := fun h =>
    hl4.cell_ (show (ints .i64 (between (vs cs)))[0]? = some (.int .i64 0) from by rw [ints, List.getElem?_map, between_at _ _ (by rw [vs_length, HL.out]; exact h)]; rfl)
  rcases Nat.eq_zero_or_pos n with h0 | h0
  · subst h0
    go_wp2
    go_loopw [5] (fun i wr => i = .int .i64 1 ∧ Below w4.heap.size w4 wr) (fun _ _ => 0)
    case atStart => exact ⟨rfl, Below.refl _ _⟩
    case round =>
      obtain ⟨rfl, hb⟩ := hrel
      go_wp2
      go_ret
      exact ⟨rfl, hB4.trans (hb.mono hB4.size)⟩
  · obtain ⟨ad4, rfl, hc4'⟩ := hfirst.out h0
    have hc4 : w4.cell? ad4 = some (.int .i64 0) := hc4'
    clear hc4'
    have hd0 : (0 : Int) < (n : Int) := by omega
    go_wp2
    go_loopw [5] (fun i wr => ∃ k : Nat, 1 ≤ k ∧ k ≤ n ∧ i = .int .i64 k ∧ Below w4.heap.size w4 wr) (fun i _ => n - (intOf i).toNat)
    case atStart => exact ⟨1, Nat.le_refl _, h0, rfl, Below.refl _ _⟩
    case round =>
      obtain ⟨k, hk1, hk, rfl, hb⟩ := hrel
      by_cases hlt : k < n
      · obtain ⟨j, hj⟩ : ∃ j, k = j + 1 := ⟨k - 1, by omega⟩
        have hjc : j + 1 < cs.length := by rw [HL.out]; omega
        obtain ⟨m1, m2⟩ := HE.out j hjc
        rw [← hj] at m1 m2
        have h3 := own_block hown3 fun g hg => hb.block g (hown3.lt g hg).2
        obtain ⟨g3, cap3, hv, _, _⟩ := h3.form (by omega)
        injection hv with hA hnn hcc
        subst hA; subst hcc
        obtain ⟨_, _, uj, _⟩ := unit_cells h3 (units_at cs j (by omega)) (by omega)
        obtain ⟨_, _, uk, _⟩ := unit_cells h3 (units_at cs k (by rw [HL.out]; exact hlt)) hlt
        simp only at uj uk
        obtain ⟨_, hq, e4⟩ := (hl4.same hb).cell_ (show (ints .i64 (between (vs cs)))[k]? = some (.int .i64 (statusAt (vs cs) k)) from by rw [ints, List.getElem?_map, between_at _ _ (by rw [vs_length, HL.out]; exact hlt)]; rfl)
        injection hq with hq
        subst hq
        have HM1 := Lib.hid m1
        have HM2 := Lib.hid m2
        clear m1 m2 h3 hown3 hl4 hc4 hnn
        generalize statusAt (vs cs) k = st at *
        generalize cs.getD j 0 = a at *
        generalize cs.getD k 0 = cc at *
        have y1 : (j : Int) < (n : Int) := by omega
        have y2 : j < n := by omega
        have y3 : (k : Int) < (n : Int) := by omega
        have HJ := Lib.hid hj
        clear hj
        go_upto_region 10 with (fail)
        have x1 : IntKind.i64.wrap ((k : Int) - 1) = (j : Int) := by rw [IntWalk.i64_in _ (by have := HJ.out; omega)]; have := HJ.out; omega
        go_quiet (fail)
        clear x1
        have e4' : (wr.drewN nq).cell? (ad4.add k) = some (.int .i64 st) := e4
        go_upto_region 11 with (fail)
        have hb' : Below w4.heap.size w4 (wr.drewN nq) := drawn hb nq
        clear hb
        generalize wr.drewN nq = W at *
        go_cut [8] (fun s wx => s = .bool (mustB a cc) ∧ wx = W)
        case first =>
          go_wp2
          all_goals (try subst_vars)
          all_goals go_meet
          all_goals (refine ⟨?_, rfl⟩; (try clear HM1); (try clear HM2); (try clear HE); (try clear hfirst); unfold mustB; first | rfl | (simp_all; done) | (simp_all; rfl))
        case rest =>
          obtain ⟨rfl, hwc⟩ := hcut
          subst hwc
          have hm1 := HM1.out
          have hm2 := HM2.out
          generalize mustB a cc = mb at *
          cases mb
          · by_cases h9 : cc = 9
            · have hst := hm2 rfl h9
              subst h9; subst hst
              clear hm1 hm2 HM1 HM2
              go_wp2
              all_goals go_roundw
              all_goals first | (case rel => exact ⟨k + 1, by omega, by omega, by go_num, hb'⟩) | (case measure => simp [intOf]; omega)
            · have h9' : (cc == 9) = false := by simpa using h9
              clear hm2 HM1 HM2
              go_wp2
              all_goals go_roundw
              all_goals first | (case rel => exact ⟨k + 1, by omega, by omega, by go_num, hb'⟩) | (case measure => simp [intOf]; omega)
          · have hst : st = 2 := by simpa using hm1
            subst hst
            clear hm1 hm2 HM1 HM2
            go_wp2
            all_goals go_roundw
            all_goals first | (case rel => exact ⟨k + 1, by omega, by omega, by go_num, hb'⟩) | (case measure => simp [intOf]; omega)
      · have hge : n ≤ k := by omega
        go_wp2
        go_ret
        exact ⟨rfl, hB4.trans (hb.mono hB4.size)⟩
end Go.Proofs.Ytbobhcffbgnfkaa.lr
