/-
  Layer 4: the walk of the statement BidicKinds.
-/
import Derived.Test.YtpipeemoikdlaaaTb5
namespace Go.Proofs.Ytpipeemoikdlaaa.tr
open Go.RowKit

def strongB (c : Int) : Bool := c == 0 || c == 1 || c == 2
def isoB (c : Int) : Bool := c == 19 || c == 20 || c == 21
def embB (c : Int) : Bool := c == 14 || c == 15 || c == 16 || c == 17
theorem strong_any (c : Int) (w : World) : Calls Try.prog 14 #[.int .u8 c] w fun e w' => e = .returned (.bool (strongB c)) ∧ w = w' := by
  go_enter Try.func14, Try.ntmps14
  go_wp2
  all_goals go_ret
  all_goals (refine ⟨?_, rfl⟩; simp_all [strongB])
theorem iso_any (c : Int) (w : World) : Calls Try.prog 15 #[.int .u8 c] w fun e w' => e = .returned (.bool (isoB c)) ∧ w = w' := by
  go_enter Try.func15, Try.ntmps15
  go_wp2
  all_goals go_ret
  all_goals (refine ⟨?_, rfl⟩; simp_all [isoB])
theorem emb_any (c : Int) (w : World) : Calls Try.prog 16 #[.int .u8 c] w fun e w' => e = .returned (.bool (embB c)) ∧ w = w' := by
  go_enter Try.func16, Try.ntmps16
  go_wp2
  all_goals go_ret
  all_goals (refine ⟨?_, rfl⟩; simp_all [embB])
theorem taken_any (c : Int) (w : World) : Calls Try.prog 17 #[.int .u8 c] w fun e w' => e = .returned (.bool (embB c || c == 18 || c == 9)) ∧ w = w' := by
  go_enter Try.func17, Try.ntmps17
  go_wp2_with (go_at_call 16; (with_reducible refine (emb_any _ _).mono ?_); rintro e w' ⟨rfl, rfl⟩)
  all_goals go_ret
  all_goals (refine ⟨?_, rfl⟩; simp_all)

set_option maxRecDepth 100000 in
set_option maxHeartbeats 8000000 in
theorem kinds_law (x : Int) (w : World) (hx : 0 ≤ x ∧ x ≤ 255) :
    Calls Try.prog 7 #[.int .u8 x] w fun e w' => e = .returned (.bool true) ∧ Below w.heap.size w w' := by
  go_enter Try.func7, Try.ntmps7
  go_upto_region 4 with (go_at_call 8; (with_reducible refine (awake_any _).mono ?_); rintro e w1 ⟨rfl, hb1⟩)
  obtain ⟨c, hc⟩ : ∃ c, x % 32 = c := ⟨_, rfl⟩
  rw [hc]
  have hc0 : 0 ≤ c ∧ c ≤ 31 := by omega
  clear hc hx
  go_cut [4] (fun s wx => s = .bool (strongB c) ∧ wx = w1)
  case first =>
    go_wp2
    all_goals (try subst_vars)
    all_goals go_meet
    all_goals exact ⟨by first | rfl | (simp_all [strongB]; done), rfl⟩
  case rest =>
    obtain ⟨rfl, hwc⟩ := hcut
    subst hwc
    go_upto_region 5 with (fail)
    go_cut [5] (fun s wx => s = .bool (isoB c) ∧ wx = wc)
    case first =>
      go_wp2
      all_goals (try subst_vars)
      all_goals go_meet
      all_goals exact ⟨by first | rfl | (simp_all [isoB]; done), rfl⟩
    case rest =>
      obtain ⟨rfl, hwc⟩ := hcut
      subst hwc
      go_upto_region 6 with (fail)
      go_cut [6] (fun s wx => s = .bool (embB c) ∧ wx = wc)
      case first =>
        go_wp2
        all_goals (try subst_vars)
        all_goals go_meet
        all_goals exact ⟨by first | rfl | (simp_all [embB]; done), rfl⟩
      case rest =>
        obtain ⟨rfl, hwc⟩ := hcut
        subst hwc
        have hk : (embB c = true) ∨ (embB c = false ∧ (c == 18) = true) ∨ (embB c = false ∧ (c == 18) = false ∧ (c == 9) = true) ∨ (embB c = false ∧ (c == 18) = false ∧ (c == 9) = false) := by
          cases embB c <;> cases (c == 18) <;> cases (c == 9) <;> simp
        rcases hk with g1 | ⟨g1, g2⟩ | ⟨g1, g2, g3⟩ | ⟨g1, g2, g3⟩
        all_goals
          go_wp2_with (first
            | (go_at_call 14; (with_reducible refine (strong_any _ _).mono ?_); rintro e w' ⟨rfl, rfl⟩)
            | (go_at_call 15; (with_reducible refine (iso_any _ _).mono ?_); rintro e w' ⟨rfl, rfl⟩)
            | (go_at_call 16; (with_reducible refine (emb_any _ _).mono ?_); rintro e w' ⟨rfl, rfl⟩)
            | (go_at_call 17; (with_reducible refine (taken_any _ _).mono ?_); rintro e w' ⟨rfl, rfl⟩))
        all_goals go_ret
        all_goals exact ⟨by first | rfl | (simp_all; done), hb1⟩
end Go.Proofs.Ytpipeemoikdlaaa.tr
