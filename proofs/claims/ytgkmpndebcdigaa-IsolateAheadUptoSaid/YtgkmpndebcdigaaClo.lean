/-
  Layer 9: the contracts of closes and awake over the program.
-/
import Derived.Test.YtgkmpndebcdigaaMat
namespace Go.Proofs.Ytgkmpndebcdigaa
open Go.RowKit

/-- boustrophedonlaw09.closes, from a place on, with n open. -/
def closesL : List Int → Int → Nat → Int
  | [], _, _ => -1
  | c :: r, n, k =>
    let n1 := if iso c then n + 1 else n
    let n2 := if c = 22 then n1 - 1 else n1
    if n2 = 0 then k else closesL r n2 (k + 1)

set_option maxHeartbeats 1000000 in
theorem closes_any (A : Option Addr) (n c : Nat) (cs : List Int) (at_ : Nat) (w : World) (hr : Rd w 1 A n (ints .u8 cs)) (hn : n ≤ 1048576) (hat : at_ ≤ n) :
    Calls Try.prog 18 #[.slice A n c, .int .i64 (at_ : Int)] w fun e w' => e = .returned (.int .i64 (closesL (cs.drop at_) 0 at_)) ∧ w = w' := by
  have hl : cs.length = n := by simpa using hr.1
  have HL := Lib.hid hl
  clear hl
  go_enter Try.func18, Try.ntmps18
  go_wp2
  go_loop [5, 6] (fun m i => ∃ k : Nat, ∃ q : Int, at_ ≤ k ∧ k ≤ n ∧ -k ≤ q ∧ q ≤ k ∧ i = .int .i64 k ∧ m = .int .i64 q ∧ Hid (closesL (cs.drop at_) 0 at_ = closesL (cs.drop k) q k))
    (fun _ i => n - (intOf i).toNat)
  case atStart => exact ⟨at_, 0, Nat.le_refl _, hat, by omega, by omega, rfl, rfl, rfl⟩
  case round =>
    obtain ⟨k, q, hk0, hk, hq1, hq2, rfl, rfl, HC⟩ := hrel
    by_cases hlt : k < n
    · have hkz : k < cs.length := by rw [HL.out]; exact hlt
      obtain ⟨ad, rfl, hc⟩ := hr.cell_ (ints_at (K := .u8) hkz)
      have HS : Hid (closesL (cs.drop k) q k = closesL (cs[k] :: cs.drop (k + 1)) q k) := by
        show _ = _
        rw [List.drop_eq_getElem_cons hkz]
      clear hr
      generalize cs[k] = x at *
      go_wp2_with (first | (go_at_call 17; refine (isolate_any _ _).mono ?_; rintro e w' ⟨rfl, rfl⟩))
      all_goals first
        | (go_ret
           refine ⟨ret_int ?_, rfl⟩
           rw [HC.out, HS.out, closesL]
           simp_all
           done)
        | (go_round
           case rel =>
             refine ⟨k + 1, _, by omega, by omega, ?_, ?_, by go_num, rfl, ?_⟩
             · omega
             · omega
             · show _ = _
               rw [HC.out, HS.out, closesL]
               simp_all
           case measure => simp [intOf]; omega)
    · obtain rfl : k = n := by omega
      clear hr
      go_wp2
      go_ret
      refine ⟨?_, rfl⟩
      rw [HC.out, List.drop_eq_nil_of_le (by rw [HL.out]; omega)]
      rfl
end Go.Proofs.Ytgkmpndebcdigaa
