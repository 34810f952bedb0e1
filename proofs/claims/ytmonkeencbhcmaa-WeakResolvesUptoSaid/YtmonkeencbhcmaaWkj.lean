/-
  Layer 14: the walk of the statement WeakResolves.
-/
import Derived.Test.YtmonkeencbhcmaaWki
namespace Go.Proofs.Ytmonkeencbhcmaa.wk
open Go.RowKit

set_option maxRecDepth 100000 in
set_option maxHeartbeats 4000000 in
theorem resolves_law (A : Option Addr) (n c : Nat) (zs : List Int) (b : Bool) (w : World)
    (hr : Rd w 1 A n (ints .u8 zs)) (hz : ∀ z ∈ zs, 0 ≤ z ∧ z ≤ 255) (hn : n ≤ 1048576) :
    Calls Try.prog 6 #[.slice A n c, .bool b] w fun e w' => e = .returned (.bool true) ∧ Below w.heap.size w w' := by
  have HSB : Hid (0 ≤ sideOf b ∧ sideOf b ≤ 1) := by show _ ∧ _; have := side_is b; omega
  go_enter Try.func6, Try.ntmps6
  go_wp2_with fail
  refine (awake14_any _).mono ?_
  rintro e w1 ⟨rfl, hb1⟩
  go_wp2_with fail
  refine (classes_any _ _ _ zs _ (hr.same hb1) (by omega) hz).mono ?_
  rintro e w2 ⟨v2, rfl, hown2, hb2⟩
  have hB2 := hb1.trans (hb2.mono hb1.size)
  obtain ⟨A2, c2, rfl, _, hl2⟩ := own_slice hown2
  have HB := Lib.hid (classes_bd zs)
  clear hown2 hb1 hb2 hr hz
  generalize classes zs = cs at *
  have HW := Lib.hid (weak_ref cs (sideOf b))
  have HD := Lib.hid (weak_bd cs (sideOf b) HB.out (side_is b))
  have HC255 : Hid (∀ c ∈ cs, 0 ≤ c ∧ c ≤ 255) := fun c hc => by have := HB.out c hc; omega
  have HSI := Lib.hid (side_any b)
  obtain ⟨s, hs⟩ : ∃ s, sideOf b = s := ⟨_, rfl⟩
  rw [hs] at HW HD HSB HSI
  obtain ⟨hs0, hs1⟩ := HSB.out
  clear hs HSB
  go_wp2_with (first
    | (go_at_call 20; (with_reducible refine (HSI.out _).mono ?_); rintro e w' ⟨rfl, rfl⟩)
    | (go_at_call 22; (with_reducible refine (resolve_any _ _ _ cs s _ hl2 (by omega)).mono ?_); rintro e w4 ⟨v4, rfl, hown4, hb4⟩; have hB4 := hB2.trans (hb4.mono hB2.size); obtain ⟨A4, c4, rfl, _, hl4⟩ := own_slice hown4; have hl24 := hl2.same hb4; clear hown4 hb4 hB2 hl2)
    | (go_at_call 24; (with_reducible refine (ints_any _ _ _ cs _ hl24 (by omega) HC255.out).mono ?_); rintro e w5 ⟨v5, rfl, hown5, hb5⟩; have hB5 := hB4.trans (hb5.mono hB4.size); have hl45 := hl4.same hb5; obtain ⟨A5, c5, rfl, _, hl5⟩ := own_slice hown5; clear hown5 hb5 hB4 hl4 hl24)
    | (go_at_call 23; (with_reducible refine (weakref_any _ _ _ cs s _ hl5 (by omega)).mono ?_); rintro e w6 ⟨v6, rfl, hown6, hb6⟩; have hB6 := hB5.trans (hb6.mono hB5.size); have hl46 := hl45.same hb6; rw [← HW.out] at hown6; obtain ⟨A6, c6, rfl, _, hl6⟩ := own_slice hown6; clear hown6 hb6 hB5 hl5 hl45)
    | (go_at_call 21; (with_reducible refine (like_any _ _ _ _ _ _ _ _ hl46 hl6 (by omega) HD.out).mono ?_); rintro e w7 ⟨rfl, hb7⟩; have hB7 := hB6.trans (hb7.mono hB6.size)))
  go_ret
  exact ⟨rfl, hB7⟩
end Go.Proofs.Ytmonkeencbhcmaa.wk
