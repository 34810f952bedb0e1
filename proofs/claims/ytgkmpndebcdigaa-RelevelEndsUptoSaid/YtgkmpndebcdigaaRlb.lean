/-
  Layer 24: the contracts of back and awake over the program; the plain laws of relL.
-/
import Derived.Test.YtgkmpndebcdigaaRel
namespace Go.Proofs.Ytgkmpndebcdigaa
open Go.RowKit

theorem relL_get (ls cs bs : List Int) (h1 : cs.length = ls.length) (h2 : bs.length = ls.length) (k : Nat) (hk : k < ls.length) :
    (relL ls cs bs)[k]? = some (if backL (cs.drop k) && ls[k] != -1 then bs[k] else ls[k]) := by
  induction ls generalizing cs bs k with
  | nil => simp at hk
  | cons l ls ih =>
    match cs, bs, h1, h2 with
    | c :: cs, b :: bs, h1, h2 =>
      cases k with
      | zero => simp [relL]
      | succ k => simpa [relL] using ih cs bs (by simpa using h1) (by simpa using h2) k (by simpa using hk)

set_option maxRecDepth 100000 in
set_option maxHeartbeats 1000000 in
theorem back_any (A : Option Addr) (n c : Nat) (cs : List Int) (at_ : Nat) (w : World) (hr : Rd w 1 A n (ints .u8 cs)) (hn : n ≤ 1048576) (hat : at_ < n) :
    Calls Try.prog 23 #[.slice A n c, .int .i64 (at_ : Int)] w fun e w' => e = .returned (.bool (backL (cs.drop at_))) ∧ w = w' := by
  have HL := Lib.hid (show cs.length = n by simpa using hr.1)
  have ha : at_ < cs.length := by rw [HL.out]; exact hat
  obtain ⟨ad, rfl, hc⟩ := hr.cell_ (ints_at (K := .u8) ha)
  have HD : Hid (backL (cs.drop at_) = if sepa cs[at_] then true else if blank cs[at_] then backL (cs.drop (at_ + 1)) else false) := by
    show _ = _
    rw [List.drop_eq_getElem_cons ha]; rfl
  generalize cs[at_] = x at *
  by_cases hs : x = 11 ∨ x = 10
  · have hx : (x == 11) = true ∨ ((x == 11) = false ∧ (x == 10) = true) := by
      rcases hs with h | h <;> simp [h]
    rcases hx with hx | ⟨hx, hx2⟩
    all_goals
      go_enter Try.func23, Try.ntmps23
      go_wp2
      go_ret
      refine ⟨ret_bool ?_, rfl⟩
      rw [HD.out]; simp [sepa, hx]
      try simp_all
  · have hx1 : (x == 11) = false := by simp; omega
    have hx2 : (x == 10) = false := by simp; omega
    clear hs
    go_enter Try.func23, Try.ntmps23
    go_wp2
    clear hc
    go_loop [5] (fun i => ∃ k : Nat, at_ ≤ k ∧ k ≤ n ∧ i = .int .i64 k ∧ Hid (backL (cs.drop at_) = backL (cs.drop k)))
      (fun i => n - (intOf i).toNat)
    case atStart => exact ⟨at_, Nat.le_refl _, by omega, rfl, rfl⟩
    case round =>
      obtain ⟨k, hk0, hk, rfl, HC⟩ := hrel
      by_cases hlt : k < n
      · have hkz : k < cs.length := by rw [HL.out]; exact hlt
        obtain ⟨ad', hh, hc⟩ := hr.cell_ (ints_at (K := .u8) hkz)
        injection hh with hh
        subst hh
        have HS : Hid (backL (cs.drop k) = if sepa cs[k] then true else if blank cs[k] then backL (cs.drop (k + 1)) else false) := by
          show _ = _
          rw [List.drop_eq_getElem_cons hkz]; rfl
        clear hr HD hx1 hx2
        generalize cs[k] = y at *
        go_wp2_with (go_at_call 32; refine (lblank_any _ _).mono ?_; rintro e w' ⟨rfl, rfl⟩)
        all_goals first
          | (go_ret
             refine ⟨ret_bool ?_, rfl⟩
             rw [HC.out, HS.out]
             simp_all [sepa]
             done)
          | (go_round
             case rel =>
               refine ⟨k + 1, by omega, by omega, by go_num, ?_⟩
               show _ = _
               rw [HC.out, HS.out]
               simp_all [sepa]
             case measure => simp [intOf]; omega)
      · obtain rfl : n = k := by omega
        clear hr HD hx1 hx2
        go_wp2
        go_ret
        refine ⟨ret_bool ?_, rfl⟩
        rw [HC.out, List.drop_eq_nil_of_le (by rw [HL.out]; omega)]
        rfl

theorem aw24 : relOf [1, 1, 1, 1] [1, 12, 11, 12] [0, 0, 0, 0] = [1, 0, 0, 0] := by decide +kernel

set_option maxHeartbeats 1000000 in
theorem awake24_any (w : World) : Calls Try.prog 19 #[] w fun e w' => e = .returned (.bool true) ∧ Below w.heap.size w w' := by
  have r1 := lit_rd (w := w) (e := 3) (g := w.heap.size) #[.int .i64 1, .int .i64 1, .int .i64 1, .int .i64 1] 4 (by omega) rfl rfl
  have r2 := lit_rd (w := w.alloc (.cells #[.int .i64 1, .int .i64 1, .int .i64 1, .int .i64 1] 3)) (e := 29) (g := w.heap.size + 1) #[.int .u8 1, .int .u8 12, .int .u8 11, .int .u8 12] 4 (by omega) rfl (by simp)
  have r3 := lit_rd (w := (w.alloc (.cells #[.int .i64 1, .int .i64 1, .int .i64 1, .int .i64 1] 3)).alloc (.cells #[.int .u8 1, .int .u8 12, .int .u8 11, .int .u8 12] 29)) (e := 3) (g := w.heap.size + 1 + 1) #[.int .i64 0, .int .i64 0, .int .i64 0, .int .i64 0] 4 (by omega) rfl (by simp)
  go_enter Try.func19, Try.ntmps19
  go_wp2_with fail
  refine (rel_any _ _ _ _ _ _ _ _ _ [1, 1, 1, 1] [1, 12, 11, 12] [0, 0, 0, 0] _ ((r1.alloc _).alloc _) (r2.alloc _) r3 (by omega) (by omega) (by omega)).mono ?_
  rintro e w1 ⟨v1, rfl, hown1, hb1⟩
  rw [aw24] at hown1
  obtain ⟨g1, c1, rfl, hg1, hg2⟩ := hown1.form (by omega)
  have a0 := hown1.cellAt 0 (by omega)
  have a1 := hown1.cellAt 1 (by omega)
  have a2 := hown1.cellAt 2 (by omega)
  have a3 := hown1.cellAt 3 (by omega)
  simp only [ints, List.map_cons, List.getElem?_cons_zero, List.getElem?_cons_succ] at a0 a1 a2 a3
  have hB : Below w.heap.size w w1 := ((((Below.refl _ _).alloc (Nat.le_refl _) _).alloc (by simp) _).alloc (by simp; omega) _).trans (hb1.mono (by simp; omega))
  clear r1 r2 r3 hown1
  go_wp2
  go_ret
  exact ⟨rfl, hB⟩
end Go.Proofs.Ytgkmpndebcdigaa
