/-
  Layer 9: the walk of the statement IsolateRest.
-/
import Derived.Test.YtgkmpndebcdigaaPlr
import Derived.Test.YtgkmpndebcdigaaBot
namespace Go.Proofs.Ytgkmpndebcdigaa
open Go.RowKit

theorem kept_iso {x : Int} (h : iso x = true) : kept x = true := by simp [kept, h]

set_option maxRecDepth 100000 in
set_option maxHeartbeats 2000000 in
theorem rest_law (A : Option Addr) (n c : Nat) (zs : List Int) (w : World) (hr : Rd w 1 A n (ints .u8 zs)) (hz : ∀ z ∈ zs, 0 ≤ z ∧ z ≤ 255) (hn : n ≤ 1048576) :
    Calls Try.prog 5 #[.slice A n c] w fun e w' => e = .returned (.bool true) ∧ Below w.heap.size w w' := by
  obtain ⟨i0, hi, hz0, hz1, hz2⟩ := info_parts info29
  obtain ⟨j0, hj, hy0, hy1, hy2⟩ := info_parts info3
  go_enter Try.func5, Try.ntmps5
  go_wp2_with fail
  refine (awake_any _).mono ?_
  rintro e w1 ⟨rfl, hb1⟩
  go_wp2_with fail
  refine (classes_any _ _ _ zs _ (hr.same hb1) hn hz).mono ?_
  rintro e w2 ⟨v2, rfl, hown2, hb2⟩
  have hl : (classes zs).length = n := by simpa [ints] using hown2.1
  have HL := Lib.hid hl
  clear hl
  generalize classes zs = cs at *
  obtain ⟨A2, c2, rfl, _, hr2⟩ := own_slice hown2
  clear hr hown2
  have hB2 : Below w.heap.size w w2 := hb1.trans (hb2.mono hb1.size)
  clear hb1 hb2
  go_wp2
  go_loopw [4, 5, 17] (fun f a i wr => ∃ k : Nat, k ≤ n ∧ i = .int .i64 k ∧ wr.ownsRow w2.heap.size 29 1 f (fewTo cs k).2.length (ints .u8 (fewTo cs k).1) ∧
      wr.ownsRow w2.heap.size 3 1 a (fewTo cs k).2.length (nats (fewTo cs k).2) ∧ Below w2.heap.size w2 wr)
    (fun _ _ i _ => n - (intOf i).toNat)
  case atStart => exact ⟨0, Nat.zero_le _, rfl, World.ownsRow_nil _ _ _ _, World.ownsRow_nil _ _ _ _, Below.refl _ _⟩
  case round =>
    obtain ⟨k, hk, rfl, hf, ha, hb⟩ := hrel
    by_cases hlt : k < n
    · have hkz : k < cs.length := by rw [HL.out]; exact hlt
      obtain ⟨ad, rfl, hc⟩ := (hr2.same hb).cell_ (ints_at (K := .u8) hkz)
      obtain ⟨q1, q2, q3, q4⟩ := fewTo_inv cs k
      have HS : Hid (fewTo cs (k + 1) = if kept cs[k] then ((fewTo cs k).1 ++ [cs[k]], (fewTo cs k).2 ++ [k]) else fewTo cs k) := by
        show _ = _
        rw [fewTo, List.getD_eq_getElem?_getD, List.getElem?_eq_getElem hkz]; rfl
      clear q1 q3 q4 hr2
      generalize cs[k] = x at *
      generalize fewTo cs k = st at *
      obtain ⟨fs, ats⟩ := st
      simp only at hf ha q2
      have EK : kept x = true → Hid (fewTo cs (k + 1) = (fs ++ [x], ats ++ [k])) := fun h => by show _ = _; rw [HS.out, if_pos h]
      rcases (by cases h : iso x <;> by_cases h2 : x = 22 <;> simp [h2] : iso x = true ∨ (iso x = false ∧ x = 22) ∨ (iso x = false ∧ ¬ x = 22)) with hx | ⟨hx, rfl⟩ | ⟨hx, h22⟩
      rotate_right
      · have e : fewTo cs (k + 1) = (fs, ats) := by rw [HS.out, if_neg (by simp [kept, hx, h22])]
        go_wp2_with (first | (go_at_call 17; refine (isolate_is _ false hx _).mono ?_; rintro e w' ⟨rfl, rfl⟩))
        go_roundw
        case rel => exact ⟨k + 1, by omega, by go_num, by rw [e]; exact hf, by rw [e]; exact ha, hb⟩
        case measure => simp [intOf]; omega
      all_goals
        have HE := EK (by simp [kept, hx])
        clear EK HS
        go_wp2_with (first
          | (go_at_call 17; refine (isolate_is _ _ hx _).mono ?_; rintro e w' ⟨rfl, rfl⟩)
          | (at_builtin; refine wpList_append_one rfl (.tmp 28) (.tmp 30) 24 rfl w2.heap.size w2 w2.heap.size 29 i0 (.int .u8 0) 1 Try.underlying24 hi hz0 hz1 hz2 rfl _ _ _ rfl hf _ _ rfl _ rfl (by simp) hb hb.size (Nat.le_refl _) hb.size (by omega) (by omega) ?_; intro f1 w3 hf1 hb1 hrest1 _; have ha1 := own_block ha (fun g hg => hrest1.block g (ha.lt g hg).2 (fun h => own_own_ne hf ha (by decide) h.symm hg)); clear hf ha hrest1)
          | (at_builtin; refine wpList_append_one rfl (.tmp 32) (.tmp 34) 26 rfl w2.heap.size w2 w2.heap.size 3 j0 (.int .i64 0) 8 Try.underlying26 hj hy0 hy1 hy2 rfl _ _ _ rfl ha1 _ _ rfl _ rfl (by simp) hb1 hb1.size (Nat.le_refl _) hb1.size (by omega) (by omega) ?_; intro a1 w4 ha2 hb2 hrest2 _; have hf2 := own_block hf1 (fun g hg => hrest2.block g (hf1.lt g hg).2 (fun h => own_own_ne ha1 hf1 (by decide) h.symm hg)); clear hf1 ha1 hrest2))
        go_roundw
        case rel => exact ⟨k + 1, by omega, by go_num, by rw [HE.out]; simpa [ints] using hf2, by rw [HE.out]; simpa [nats] using ha2, hb2⟩
        case measure => simp [intOf]; omega
    · obtain rfl : n = k := by omega
      have HFE := Lib.hid (few_end cs)
      rw [HL.out] at HFE
      obtain ⟨q1, q2, q3, q4⟩ := fewTo_inv cs n
      generalize (fewTo cs n).1 = fs at *
      generalize (fewTo cs n).2 = ats at *
      obtain ⟨A4, c4, rfl, _, hf4⟩ := own_slice hf
      obtain ⟨A5, c5, rfl, _, ha5⟩ := own_slice ha
      have hr3 := hr2.same hb
      clear hf ha q3 q4 hr2
      go_wp2_with fail
      refine (match_any _ _ _ cs _ hr3 hn).mono ?_
      rintro e w4 ⟨v4, rfl, hown4, hb4⟩
      go_wp2_with fail
      refine (match_any _ _ _ fs _ (hf4.same hb4) (by omega)).mono ?_
      rintro e w5 ⟨v5, rfl, hown5, hb5⟩
      obtain ⟨A6, c6, rfl, _, hm6⟩ := own_slice hown4
      obtain ⟨A7, c7, rfl, _, hm7⟩ := own_slice hown5
      have hm6' := hm6.same hb5
      have ha5' := (ha5.same hb4).same hb5
      have hB : Below w.heap.size w w5 := ((hB2.trans (hb.mono hB2.size)).trans (hb4.mono (Nat.le_trans hB2.size hb.size))).trans (hb5.mono (Nat.le_trans (Nat.le_trans hB2.size hb.size) hb4.size))
      clear hown4 hown5 hm6 ha5 hf4 hr3 hb hb4 hb5 hB2
      go_wp2
      go_loopw [10] (fun i wr => ∃ j : Nat, j ≤ ats.length ∧ i = .int .i64 j ∧ Below w5.heap.size w5 wr)
        (fun i _ => ats.length - (intOf i).toNat)
      case atStart => exact ⟨0, Nat.zero_le _, rfl, Below.refl _ _⟩
      case round =>
        obtain ⟨j, hjn, rfl, hb⟩ := hrel
        by_cases hlt : j < ats.length
        · obtain ⟨p, hp, hpn, hcase⟩ := HFE.out j hlt
          obtain ⟨ad5, rfl, hc5⟩ := (ha5'.same hb).2 (by omega)
          obtain ⟨ad6, rfl, hc6⟩ := (hm6'.same hb).2 (by omega)
          obtain ⟨ad7, rfl, hc7⟩ := (hm7.same hb).2 (by omega)
          have e5 := hc5 j (.int .i64 (p : Int)) (by simp [nats, hp])
          rcases hcase with ⟨h1, h2⟩ | ⟨q, r, h1, hql, h2, h3⟩
          · have e7 := hc7 j (.int .i64 (-1)) (by simp [ints, h1])
            have e6 := hc6 p (.int .i64 (-1)) (by simp [ints, h2])
            clear hc5 hc6 hc7 h1 h2 hp
            go_wp2
            go_quiet (fail)
            go_wp2
            go_roundw
            case rel => exact ⟨j + 1, by omega, by go_num, by first | exact hb | exact hb.drew | exact drawn hb _⟩
            case measure => simp [intOf]; omega
          · have e7 := hc7 j (.int .i64 (q : Int)) (by simp [ints, h1])
            have e5' := hc5 q (.int .i64 (r : Int)) (by simp [nats, h2])
            have e6 := hc6 p (.int .i64 (r : Int)) (by simp [ints, h3])
            have hrn : p < n := by omega
            have b1 : (((q : Nat) : Int) == -1) = false := by simp
            have b2 : (((q : Nat) : Int) != -1) = true := by simp
            have b3 : (((r : Nat) : Int) == -1) = false := by simp
            clear hc5 hc6 hc7 h1 h2 h3 hp
            go_wp2
            go_quiet (fail)
            go_wp2
            go_roundw
            case rel => exact ⟨j + 1, by omega, by go_num, by first | exact hb | exact hb.drew | exact drawn hb _⟩
            case measure => simp [intOf]; omega
        · go_wp2
          go_ret
          exact ⟨rfl, hB.trans (hb.mono hB.size)⟩
end Go.Proofs.Ytgkmpndebcdigaa
