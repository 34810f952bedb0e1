/-
  Layer 9: the walk of the statement IsolateBoth.
-/
import Derived.Test.YtgkmpndebcdigaaPlb
namespace Go.Proofs.Ytgkmpndebcdigaa
open Go.RowKit

theorem isolate_is (c : Int) (b : Bool) (h : iso c = b) (w : World) : Calls Try.prog 17 #[.int .u8 c] w fun e w' => e = .returned (.bool b) ∧ w' = w :=
  (isolate_any c w).mono fun _ _ ⟨he, hw⟩ => ⟨by rw [he, h], hw.symm⟩

set_option maxRecDepth 100000 in
set_option maxHeartbeats 2000000 in
theorem both_law (A : Option Addr) (n c : Nat) (zs : List Int) (w : World) (hr : Rd w 1 A n (ints .u8 zs)) (hz : ∀ z ∈ zs, 0 ≤ z ∧ z ≤ 255) (hn : n ≤ 1048576) :
    Calls Try.prog 4 #[.slice A n c] w fun e w' => e = .returned (.bool true) ∧ Below w.heap.size w w' := by
  go_enter Try.func4, Try.ntmps4
  go_wp2_with fail
  refine (awake_any _).mono ?_
  rintro e w1 ⟨rfl, hb1⟩
  go_wp2_with fail
  refine (classes_any _ _ _ zs _ (hr.same hb1) hn hz).mono ?_
  rintro e w2 ⟨v2, rfl, hown2, hb2⟩
  have hl : (classes zs).length = n := by simpa [ints] using hown2.1
  have HL := Lib.hid hl
  clear hl
  generalize classes zs = cs at *
  obtain ⟨A2, c2, rfl, _, hr2⟩ := own_slice hown2
  clear hr hown2
  go_wp2_with fail
  refine (match_any _ _ _ cs _ hr2 hn).mono ?_
  rintro e w3 ⟨v3, rfl, hown3, hb3⟩
  have hr3 := hr2.same hb3
  have hB : Below w.heap.size w w3 := (hb1.trans (hb2.mono hb1.size)).trans (hb3.mono (Nat.le_trans hb1.size hb2.size))
  obtain ⟨A3, c3, rfl, _, hm3⟩ := own_slice hown3
  clear hr2 hown3 hb1 hb2 hb3
  go_wp2
  go_loopw [5, 6] (fun i _ wr => ∃ k : Nat, k ≤ n ∧ i = .int .i64 k ∧ Below w3.heap.size w3 wr)
    (fun i _ _ => n - (intOf i).toNat)
  case atStart => exact ⟨0, Nat.zero_le _, rfl, Below.refl _ _⟩
  case round =>
    obtain ⟨k, hk, rfl, hb⟩ := hrel
    by_cases hlt : k < n
    · have hkz : k < cs.length := by rw [HL.out]; exact hlt
      obtain ⟨ad3, rfl, hc3⟩ := (hm3.same hb).2 (by omega)
      obtain ⟨ad2, rfl, hc2⟩ := (hr3.same hb).2 (by omega)
      rcases matched_both cs k hkz with hm | ⟨p, hm, hp1, hp2, hp3, hp4⟩
      · have e1 := hc3 k (.int .i64 (-1)) (by simp [ints, hm])
        clear hc3 hc2 hm
        go_wp2
        go_roundw
        case rel => exact ⟨k + 1, by omega, by go_num, hb⟩
        case measure => simp [intOf]; omega
      · have e1 := hc3 k (.int .i64 (p : Int)) (by simp [ints, hm])
        have e2 := hc3 p (.int .i64 (k : Int)) (by simp [ints, hp2])
        have e3 := hc2 k (.int .u8 cs[k]) (ints_at hkz)
        have hpn : p < n := by rw [← HL.out]; exact hp1
        rw [isoAt_get hkz] at hp3
        have hp3' : (iso cs[k] = true ∧ k < p) ∨ (iso cs[k] = false ∧ cs[k] = 22 ∧ p < k) := by
          rcases hp3 with h | ⟨h1, h2, h3⟩
          · exact .inl h
          · exact .inr ⟨h1, by rw [List.getElem?_eq_getElem hkz] at h2; exact Option.some.inj h2, h3⟩
        have HC := Lib.hid (fun W (hW : Rd W 1 (some ad3) n (ints .i64 (matched cs))) => hW.2 (by omega))
        have H4 := Lib.hid hp4
        have H1 := Lib.hid hm
        clear hc3 hc2 hm hp1 hp2 hp3 hp4
        generalize cs[k] = x at *
        rcases hp3' with ⟨hx, hkp⟩ | ⟨hx, rfl, hkp⟩
        · go_wp2
          go_quiet ((go_at_call 17; exact Calls.quiet_of_same (isolate_is _ true hx _)))
          go_wp2
          go_loopw [6] (fun i wr => ∃ q : Nat, k < q ∧ q ≤ p ∧ i = .int .i64 q ∧ Below w3.heap.size w3 wr)
            (fun i _ => p - (intOf i).toNat)
          case atStart => exact ⟨k + 1, by omega, by omega, by go_num, by first | exact hb | exact hb.drew | exact below_drewN hb _⟩
          case round =>
            clear hb e1 e2 e3
            obtain ⟨q, hq1, hq2, rfl, hb⟩ := hrel
            obtain ⟨ad3', hh, hc3⟩ := HC.out _ (hm3.same hb)
            injection hh with hh
            subst hh
            have e1 := hc3 k (.int .i64 (p : Int)) (by simp [ints, H1.out])
            by_cases hqp : q < p
            · obtain ⟨u, hu, hu1⟩ := H4.out q hq1 hqp
              have e2 := hc3 q (.int .i64 u) (by simp [ints, hu])
              clear hc3 hu
              rcases hu1 with rfl | ⟨hu1, hu2⟩
              · go_wp2
                go_quiet (fail)
                go_wp2
                go_roundw
                case rel => exact ⟨q + 1, by omega, by omega, by go_num, by first | exact hb | exact hb.drew | exact below_drewN hb _⟩
                case measure => simp [intOf]; omega
              · have hu0 : (u == -1) = false := by simp; omega
                have hu0' : (u != -1) = true := by simp; omega
                have hd1 : decide (u < (k : Int)) = false := by simp; omega
                have hd2 : decide ((p : Int) < u) = false := by simp; omega
                go_wp2
                go_quiet (fail)
                go_wp2
                go_roundw
                case rel => exact ⟨q + 1, by omega, by omega, by go_num, by first | exact hb | exact hb.drew | exact below_drewN hb _⟩
                case measure => simp [intOf]; omega
            · clear hc3
              go_wp2
              go_roundw
              case rel => exact ⟨k + 1, by omega, by go_num, hb⟩
              case measure => simp [intOf]; omega
        · have hd : decide (k < p) = false := by simp; omega
          have hpk : (p : Int) ≤ k := by omega
          go_wp2
          go_quiet ((go_at_call 17; exact Calls.quiet_of_same (isolate_is _ false hx _)))
          clear hd
          go_wp2
          go_loopw [6] (fun i wr => i = .int .i64 (k + 1 : Nat) ∧ Below w3.heap.size w3 wr)
            (fun _ _ => 0)
          case atStart => exact ⟨by go_num, by first | exact hb | exact hb.drew | exact below_drewN hb _⟩
          case round =>
            clear hb e1 e2 e3
            obtain ⟨rfl, hb⟩ := hrel
            obtain ⟨ad3', hh, hc3⟩ := HC.out _ (hm3.same hb)
            injection hh with hh
            subst hh
            have e1 := hc3 k (.int .i64 (p : Int)) (by simp [ints, H1.out])
            clear hc3
            go_wp2
            go_roundw
            case rel => exact ⟨k + 1, by omega, by go_num, hb⟩
            case measure => simp [intOf]; omega
    · obtain rfl : n = k := by omega
      go_wp2
      go_ret
      exact ⟨rfl, hB.trans (hb.mono hB.size)⟩
end Go.Proofs.Ytgkmpndebcdigaa
