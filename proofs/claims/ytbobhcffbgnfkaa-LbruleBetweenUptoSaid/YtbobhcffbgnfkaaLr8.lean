/-
  Layer 20: the walk of the statement LbruleBetween.
-/
import Derived.Test.YtbobhcffbgnfkaaLr6
import Derived.Test.YtbobhcffbgnfkaaLr7
namespace Go.Proofs.Ytbobhcffbgnfkaa.lr
open Go.RowKit lb

set_option maxRecDepth 100000 in
set_option maxHeartbeats 8000000 in
theorem between_law (A : Option Addr) (n c : Nat) (zs : List Int) (w : World)
    (hr : Rd w 1 A n (ints .u8 zs)) (hz : ∀ z ∈ zs, 0 ≤ z ∧ z ≤ 255) (hn : n ≤ 1048576) :
    Calls Try.prog 8 #[.slice A n c] w fun e w' => e = .returned (.bool true) ∧ Below w.heap.size w w' := by
  go_enter Try.func8, Try.ntmps8
  go_wp2_with fail
  refine (awake20_any _).mono ?_
  rintro e w1 ⟨rfl, hb1⟩
  go_wp2_with fail
  refine (classes43_any _ _ _ zs _ (hr.same hb1) (by omega) hz).mono ?_
  rintro e w2 ⟨v2, rfl, hown2, hb2⟩
  have hB2 := hb1.trans (hb2.mono hb1.size)
  obtain ⟨A2, c2, rfl, _, hl2⟩ := own_slice hown2
  have HRG := Lib.hid (unitsTo_range (classes43 zs) [] (classes_range zs) (classes43 zs).length)
  have HLN := Lib.hid (unitsTo_length (classes43 zs) [] (classes43 zs).length)
  clear hown2 hb1 hb2 hr hz
  generalize classes43 zs = cs at *
  have HLc := Lib.hid (show cs.length = n by simpa using hl2.1)
  go_wp2_with fail
  refine (units_any _ _ _ none 0 0 cs [] _ hl2 Rd.nil_ (by omega)).mono ?_
  rintro e w3 ⟨v3, rfl, ho, hb3⟩
  have hB3 := hB2.trans (hb3.mono hB2.size)
  have hm : (units cs []).length ≤ n := by have := HLN.out; rw [HLc.out] at this; rw [units, HLc.out]; exact this
  have hrg : ∀ u ∈ units cs [], 0 ≤ u.cls ∧ u.cls ≤ 255 := HRG.out
  clear hl2 hb3
  generalize units cs [] = us at *
  generalize us.length = m at *
  obtain ⟨A3, c3, rfl, _, _⟩ := own_slice ho
  have HWT := Lib.hid (fun (w' : World) (h : w'.ownsRow w2.heap.size 31 4 (.slice A3 m c3) m (ucells us)) => want_any A3 m c3 w2.heap.size us w' h (by omega) hrg)
  clear hrg
  go_wp2_with (first
    | (go_at_call 13; (with_reducible refine (between_any A3 m c3 w2.heap.size us _ ho (by omega)).mono ?_); rintro e w5 ⟨v5, rfl, hr5, hb5⟩; have ho5 := own_block ho fun g hg => hb5.block g (ho.lt g hg).2; obtain ⟨A5, c5, rfl, _, hl5⟩ := own_slice hr5; have hB5 := hB3.trans (hb5.mono hB3.size))
    | (go_at_call 14; (with_reducible refine (HWT.out _ ho5).mono ?_); rintro e w6 ⟨v6, rfl, hr6, hb6⟩; have hl56 := hl5.same hb6; obtain ⟨A6, c6, rfl, _, hl6⟩ := own_slice hr6; have hB6 := hB5.trans (hb6.mono hB5.size))
    | (go_at_call 12; (with_reducible refine (are_yes A5 m c5 A6 m c6 _ _ hl56 hl6 (by omega)).mono ?_); rintro e w7 ⟨rfl, hb7⟩; have hB7 := hB6.trans (hb7.mono hB6.size)))
  go_ret
  exact ⟨rfl, hB7⟩
end Go.Proofs.Ytbobhcffbgnfkaa.lr
