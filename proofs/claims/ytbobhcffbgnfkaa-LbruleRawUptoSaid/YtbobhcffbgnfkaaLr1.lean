/-
  Layer 20: the walk of the statement LbruleSpaces.
-/
import Derived.Test.YtbobhcffbgnfkaaLrw
namespace Go.Proofs.Ytbobhcffbgnfkaa.lr
open Go.RowKit lb

theorem vs_nines (m : Nat) : vs (List.replicate m 9) = List.replicate m (9, false) := by simp [vs]

set_option maxRecDepth 100000 in
set_option maxHeartbeats 8000000 in
theorem spaces_law (A : Option Addr) (n c : Nat) (zs : List Int) (x y : Int) (w : World)
    (hr : Rd w 1 A n (ints .u8 zs)) (hz : ∀ z ∈ zs, 0 ≤ z ∧ z ≤ 255) (hx : 0 ≤ x ∧ x ≤ 255) (hy : 0 ≤ y ∧ y ≤ 255) (hn : n ≤ 1048576) :
    Calls Try.prog 6 #[.slice A n c, .int .u8 x, .int .u8 y] w fun e w' => e = .returned (.bool true) ∧ Below w.heap.size w w' := by
  obtain ⟨i0, hi, hz0, hz1, hz2⟩ := info_parts infoCl
  obtain ⟨q, hq6⟩ : ∃ q : Nat, y % 6 = q := ⟨(y % 6).toNat, by omega⟩
  have hq5 : q ≤ 5 := by omega
  have H6 := Lib.hid hq6
  clear hq6
  go_enter Try.func6, Try.ntmps6
  go_wp2_with fail
  refine (awake20_any _).mono ?_
  rintro e w1 ⟨rfl, hb1⟩
  go_wp2_with fail
  refine (classes43_any _ _ _ zs _ (hr.same hb1) (by omega) hz).mono ?_
  rintro e w2 ⟨v2, rfl, hown2, hb2⟩
  have hB2 := hb1.trans (hb2.mono hb1.size)
  obtain ⟨A2, c2, rfl, _, hl2⟩ := own_slice hown2
  clear hown2 hb1 hb2 hr hz
  generalize classes43 zs = xa at *
  have HLa := Lib.hid (show xa.length = n by simpa using hl2.1)
  go_upto_region 6 with (first
    | (at_builtin; refine wpList_append_rd rfl (.const (.slice none 0 0)) (.tmp 18) 27 rfl w2.heap.size w2 w2.heap.size 29 i0 (.int .u8 0) 1 1 Try.underlying27 hi hz0 hz1 hz2 rfl (by decide) _ _ _ rfl (World.ownsRow_nil _ _ _ _) _ _ _ _ rfl hl2 ints_one (Below.refl _ _) (Nat.le_refl _) (Nat.le_refl _) (Nat.le_refl _) (by omega) (by omega) ?_; intro v3 w3 hown3 hb3 u1 u2; clear u1 u2; simp only [Nat.zero_add, List.nil_append] at hown3)
    | (at_builtin; refine wpList_append_one rfl (.tmp 19) (.tmp 20) 27 rfl w2.heap.size w2 w2.heap.size 29 i0 (.int .u8 0) 1 Try.underlying27 hi hz0 hz1 hz2 rfl _ _ _ rfl hown3 _ _ rfl _ rfl (by simp) hb3 hb3.size (Nat.le_refl _) hb3.size (by omega) (by omega) ?_; intro v4 w4 hown4 hb4 u1 u2; clear u1 u2; clear hown3 hb3; replace hown4 : w4.ownsRow w2.heap.size 29 1 v4 (n + 1) (ints .u8 (xa ++ [9])) := (by simpa [ints] using hown4); obtain ⟨A4, c4, rfl, _, hl4⟩ := own_slice hown4)
    | (at_builtin; refine wpList_append_rd rfl (.const (.slice none 0 0)) (.tmp 22) 27 rfl w4.heap.size w4 w4.heap.size 29 i0 (.int .u8 0) 1 1 Try.underlying27 hi hz0 hz1 hz2 rfl (by decide) _ _ _ rfl (World.ownsRow_nil _ _ _ _) _ _ _ _ rfl hl4 ints_one (Below.refl _ _) (Nat.le_refl _) (Nat.le_refl _) (Nat.le_refl _) (by omega) (by omega) ?_; intro v5 w5 hown5 hb5 u1 u2; clear u1 u2; simp only [Nat.zero_add, List.nil_append] at hown5))
  have HPA := Lib.hid (fun g hg => (hown4.lt g hg).2)
  replace hown4 := own_block hown4 fun g hg => hb5.block g (hown4.lt g hg).2
  have hs45 := hb5.size
  have hB4 := hB2.trans (hb4.mono hB2.size)
  have hs24 := hb4.size
  have hs2 := hB2.size
  clear hl4 hl2 hb4 hB2
  go_wp2
  go_loopw [9, 10] (fun p i wr => ∃ k : Nat, k ≤ q ∧ i = .int .i64 k ∧ wr.ownsRow w4.heap.size 29 1 p (n + 1 + k) (ints .u8 (xa ++ List.replicate (k + 1) 9)) ∧
      wr.ownsRow w2.heap.size 29 1 (.slice A4 (n + 1) c4) (n + 1) (ints .u8 (xa ++ [9])) ∧ Below w4.heap.size w4 wr)
    (fun _ i _ => q - (intOf i).toNat)
  case atStart => exact ⟨0, Nat.zero_le _, rfl, by simpa using hown5, hown4, hb5⟩
  case round =>
    clear hown5 hown4 hb5 hs45
    obtain ⟨k, hk, rfl, hp, ha, hb⟩ := hrel
    have e6 := H6.out
    by_cases hlt : k < q
    · have HA := Lib.hid ha
      have HP := Lib.hid hp
      go_wp2_with (at_builtin; refine wpList_append_one rfl (.tmp 31) (.tmp 32) 27 rfl w4.heap.size w4 w4.heap.size 29 i0 (.int .u8 0) 1 Try.underlying27 hi hz0 hz1 hz2 rfl _ _ _ rfl hp _ _ rfl _ rfl (by simp) hb hb.size (Nat.le_refl _) hb.size (by omega) (by omega) ?_; intro v6 w6 hown6 hb6 hg6 u2; clear u2)
      go_roundw
      case rel =>
        refine ⟨k + 1, by omega, by go_num, ?_, ?_, hb6⟩
        · rw [List.replicate_succ', ← List.append_assoc]
          simpa [ints, Nat.add_assoc] using hown6
        · exact own_block HA.out fun g hg => hg6.block g (HA.out.lt g hg).2 fun h => by have h1 := (HP.out.lt g h.symm).1; have h2 := HPA.out g hg; omega
      case measure => simp [intOf]; omega
    · obtain rfl : q = k := by omega
      have hBq := hB4.trans (hb.mono hB4.size)
      have hlp := hb.size
      obtain ⟨z, hz43⟩ : ∃ z, x % 43 = z := ⟨_, rfl⟩
      have hzz : 0 ≤ z ∧ z ≤ 42 := by omega
      go_upto_region 11 with (fail)
      rw [hz43]
      clear hz43 e6
      have HS := Lib.hid (status_spaces (vs xa) q (z, false))
      have HV1 : Hid (vs (xa ++ [9] ++ [z]) = vs xa ++ [(9, false)] ++ [(z, false)]) := by simp [vs, Hid]
      have HV2 : Hid (vs (xa ++ List.replicate (q + 1) 9 ++ [z]) = vs xa ++ List.replicate (q + 1) (9, false) ++ [(z, false)]) := by simp [vs, Hid]
      obtain ⟨A5, c5, rfl, _, _⟩ := own_slice hp
      have HPb := Lib.hid (fun g hg => (hp.lt g hg).1)
      have HLen1 : Hid ((vs xa ++ [(9, false)] ++ [(z, false)]).length = n + 1 + 1) := by show _ = _; simp [vs_length, HLa.out]
      have HLen2 : Hid ((vs xa ++ List.replicate (q + 1) (9, false) ++ [(z, false)]).length = n + 1 + q + 1) := by show _ = _; simp [vs_length, HLa.out]; omega
      have hbz : Below wr.heap.size wr wr := Below.refl _ _
      go_upto_region 12 with (first
        | (at_builtin; refine wpList_append_one rfl (.tmp 36) (.tmp 38) 27 rfl w2.heap.size wr w2.heap.size 29 i0 (.int .u8 0) 1 Try.underlying27 hi hz0 hz1 hz2 rfl _ _ _ rfl ha _ _ rfl _ rfl (by simp) (Below.refl _ _) (by omega) (Nat.le_refl _) (by omega) (by omega) (by omega) ?_; intro v7 w7 hown7 hb7 hg7 u2; clear u2; have hB7 := hBq.trans (hb7.mono hs2); replace hown7 : w7.ownsRow w2.heap.size 29 1 v7 (n + 1 + 1) (ints .u8 (xa ++ [9] ++ [z])) := (by simpa [ints] using hown7); have hp7 := own_block hp (fun g hg => hg7.block g (hp.lt g hg).2 (fun h => (by have h1 := HPb.out g hg; have h2 := HPA.out g h.symm; omega))); obtain ⟨A7, c7, rfl, _, hl7⟩ := own_slice hown7; clear hown7 ha hp hg7)
        | (go_at_call 10; (with_reducible refine (of_any _ _ _ (xa ++ [9] ++ [z]) _ hl7 (by omega)).mono ?_); rintro e w8 ⟨v8, rfl, hown8, hb8⟩; have hB8 := hB7.trans (hb8.mono hB7.size); have hp8 := own_block hp7 (fun g hg => hb8.block g (hp7.lt g hg).2); obtain ⟨A8, c8, rfl, _, _⟩ := own_slice hown8; have hz8 := hb8.size; clear hl7 hp7)
        | (go_at_call 13; (with_reducible refine (between_any _ _ _ _ (unitsOf (xa ++ [9] ++ [z])) _ hown8 (by omega)).mono ?_); rintro e w9 ⟨v9, rfl, hown9, hb9⟩; have hB9 := hB8.trans (hb9.mono hB8.size); have hp9 := own_block hp8 (fun g hg => hb9.block g (hp8.lt g hg).2); obtain ⟨A9, c9, rfl, _, hl9⟩ := own_slice hown9; have hz9 := hb9.size; clear hown8 hp8 hb8 hb9)
        | (at_builtin; refine wpList_append_one rfl (.tmp 42) (.tmp 44) 27 rfl w4.heap.size w9 w4.heap.size 29 i0 (.int .u8 0) 1 Try.underlying27 hi hz0 hz1 hz2 rfl _ _ _ rfl hp9 _ _ rfl _ rfl (by simp) (Below.refl _ _) (by have := hb7.size; omega) (Nat.le_refl _) (by have := hb7.size; omega) (by omega) (by omega) ?_; intro vA wA hownA hbA hgA u2; clear u2; have hBA := hB9.trans (hbA.mono (by omega)); replace hownA : wA.ownsRow w4.heap.size 29 1 vA (n + 1 + q + 1) (ints .u8 (xa ++ List.replicate (q + 1) 9 ++ [z])) := (by simpa [ints] using hownA); have hown9A := own_block hown9 (fun g hg => hgA.block g (hown9.lt g hg).2 (fun h => own_own_ne hp9 hown9 (by decide) h.symm hg)); obtain ⟨AA, cA, rfl, _, hlA⟩ := own_slice hownA; clear hownA hp9 hgA hl9 hown9)
        | (go_at_call 10; (with_reducible refine (of_any _ _ _ (xa ++ List.replicate (q + 1) 9 ++ [z]) _ hlA (by omega)).mono ?_); rintro e wB ⟨vB, rfl, hownB, hbB⟩; have hBB := hBA.trans (hbB.mono hBA.size); have hown9B := own_block hown9A (fun g hg => hbB.block g (hown9A.lt g hg).2); clear hown9A; obtain ⟨AB, cB, rfl, _, _⟩ := own_slice hownB; clear hlA)
        | (go_at_call 13; (with_reducible refine (between_any _ _ _ _ (unitsOf (xa ++ List.replicate (q + 1) 9 ++ [z])) _ hownB (by omega)).mono ?_); rintro e wC ⟨vC, rfl, hownC, hbC⟩; have hBC := hBB.trans (hbC.mono hBB.size); have hown9C := own_block hown9B (fun g hg => hbC.block g (hown9B.lt g hg).2); clear hown9B; obtain ⟨AC, cC, rfl, _, hlC⟩ := own_slice hownC; clear hownB))
      obtain ⟨A9', c9', hv, _, hl9⟩ := own_slice hown9C
      injection hv with hv1 hv2 hv3
      subst hv1
      rw [vOf_of, HV1.out] at hl9
      rw [vOf_of, HV2.out] at hlC
      have hs := HS.out
      rw [vs_length, HLa.out] at hs
      rw [show n + (q + 1) = n + 1 + q from by omega] at hs
      obtain ⟨ad9, rfl, e9⟩ := hl9.cell_ (show (ints .i64 (between (vs xa ++ [(9, false)] ++ [(z, false)])))[n + 1]? = some (.int .i64 (statusAt (vs xa ++ List.replicate (q + 1) (9, false) ++ [(z, false)]) (n + 1 + q))) from by
        rw [ints, List.getElem?_map, between_at _ _ (by rw [HLen1.out]; omega), hs]; rfl)
      obtain ⟨adC, rfl, eC⟩ := hlC.cell_ (show (ints .i64 (between (vs xa ++ List.replicate (q + 1) (9, false) ++ [(z, false)])))[n + 1 + q]? = some (.int .i64 (statusAt (vs xa ++ List.replicate (q + 1) (9, false) ++ [(z, false)]) (n + 1 + q))) from by
        rw [ints, List.getElem?_map, between_at _ _ (by rw [HLen2.out]; omega)]; rfl)
      replace e9 : wC.cell? (ad9.add (n + 1)) = some (.int .i64 (statusAt (vs xa ++ List.replicate (q + 1) (9, false) ++ [(z, false)]) (n + 1 + q))) := e9
      have hfin := hBC
      clear hl9 hlC hs hv2 hv3 hown9C hownC hbC hbB hBB hBA hB9 hB8 hB7 hbA hb7
      clear HLen1 HLen2 HV1 HV2 HS HPA HPb hb hlp hs24 hs2 hBq hbz hB4
      generalize statusAt (vs xa ++ List.replicate (q + 1) (9, false) ++ [(z, false)]) (n + 1 + q) = st at *
      generalize hna : n + 1 = na at *
      have hnn : na ≤ 1048577 := by omega
      generalize hnb : na + q = nb at *
      have hnm : nb ≤ 1048587 := by omega
      clear hna hnb
      have x1 : IntKind.i64.wrap ((na : Int) + 1) = (na : Int) + 1 := IntWalk.i64_in _ (by omega)
      have x2 : IntKind.i64.wrap ((nb : Int) + 1) = (nb : Int) + 1 := IntWalk.i64_in _ (by omega)
      have y1 : (na : Int) < (na : Int) + 1 := by omega
      have y2 : na < na + 1 := by omega
      have y3 : (nb : Int) < (nb : Int) + 1 := by omega
      have y4 : nb < nb + 1 := by omega

      go_quiet (fail)
      go_wp2
      go_ret
      exact ⟨rfl, drawn hfin _⟩
end Go.Proofs.Ytbobhcffbgnfkaa.lr
