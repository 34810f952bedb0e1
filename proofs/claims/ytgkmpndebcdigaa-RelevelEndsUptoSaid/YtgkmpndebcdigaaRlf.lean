/-
  Layers 12 and 24: the contracts of Levels, Bases and of the predicates on classes over the program.
-/
import Derived.Test.YtgkmpndebcdigaaIso
namespace Go.Proofs.Ytgkmpndebcdigaa
open Go.RowKit

/-- bidic.Embedding, bidic.Taken, relevel.blank -/
def emb (c : Int) : Bool := c == 14 || c == 15 || c == 16 || c == 17
def taken (c : Int) : Bool := emb c || c == 18 || c == 9
def blank (c : Int) : Bool := c == 12 || iso c || c == 22 || taken c
/-- a separator -/
def sepa (c : Int) : Bool := c == 11 || c == 10

theorem emb_any (c : Int) (w : World) : Calls Try.prog 36 #[.int .u8 c] w fun e w' => e = .returned (.bool (emb c)) ∧ w = w' := by
  go_enter Try.func36, Try.ntmps36
  go_wp2
  all_goals go_ret
  all_goals (refine ⟨?_, rfl⟩; simp_all [emb])

theorem taken_any (c : Int) (w : World) : Calls Try.prog 35 #[.int .u8 c] w fun e w' => e = .returned (.bool (taken c)) ∧ w = w' := by
  go_enter Try.func35, Try.ntmps35
  go_wp2_with (go_at_call 36; refine (emb_any _ _).mono ?_; rintro e w' ⟨rfl, rfl⟩)
  all_goals go_ret
  all_goals (refine ⟨?_, rfl⟩; simp_all [taken])

theorem rblank_any (c : Int) (w : World) : Calls Try.prog 31 #[.int .u8 c] w fun e w' => e = .returned (.bool (blank c)) ∧ w = w' := by
  go_enter Try.func31, Try.ntmps31
  go_wp2_with (first | (go_at_call 17; refine (isolate_any _ _).mono ?_; rintro e w' ⟨rfl, rfl⟩) | (go_at_call 35; refine (taken_any _ _).mono ?_; rintro e w' ⟨rfl, rfl⟩))
  all_goals go_ret
  all_goals (refine ⟨?_, rfl⟩; simp_all [blank])

theorem lblank_any (c : Int) (w : World) : Calls Try.prog 32 #[.int .u8 c] w fun e w' => e = .returned (.bool (blank c)) ∧ w = w' := by
  go_enter Try.func32, Try.ntmps32
  go_wp2
  all_goals go_ret
  all_goals (refine ⟨ret_bool ?_, rfl⟩; simp_all [blank, iso, taken, emb])

/-- boustrophedonlaw12.Levels, boustrophedonlaw24.Bases -/
def levelOf (z : Int) : Int := if z % 8 = 7 then -1 else (z / 8) % 6
def levels (zs : List Int) : List Int := zs.map levelOf
def basesOf (zs : List Int) : List Int := zs.map (· % 2)

set_option maxHeartbeats 400000 in
theorem levels_any (A : Option Addr) (n c : Nat) (zs : List Int) (w : World) (hr : Rd w 1 A n (ints .u8 zs)) (hn : n ≤ 1048576) (hz : ∀ z ∈ zs, 0 ≤ z ∧ z ≤ 255) :
    Calls Try.prog 20 #[.slice A n c] w fun e w' => ∃ v, e = .returned v ∧ w'.ownsRow w.heap.size 3 1 v n (ints .i64 (levels zs)) ∧ Below w.heap.size w w' := by
  obtain ⟨i0, hi, hz0, hz1, hz2⟩ := info_parts info3
  have hl : zs.length = n := by simpa using hr.1
  have HL := Lib.hid hl
  clear hl
  go_enter Try.func20, Try.ntmps20
  go_wp2
  go_loopw [3, 4] (fun v i wr => ∃ k : Nat, k ≤ n ∧ i = .int .i64 k ∧ wr.ownsRow w.heap.size 3 1 v k (ints .i64 (levels (zs.take k))) ∧ Below w.heap.size w wr)
    (fun _ i _ => n - (intOf i).toNat)
  case atStart => exact ⟨0, Nat.zero_le _, rfl, World.ownsRow_nil _ _ _ _, Below.refl _ _⟩
  case round =>
    obtain ⟨k, hk, rfl, hown, hb⟩ := hrel
    by_cases hlt : k < n
    · have hkz : k < zs.length := by rw [HL.out]; exact hlt
      obtain ⟨ad, rfl, hc⟩ := (hr.same hb).cell_ (ints_at (K := .u8) hkz)
      have hzk := hz zs[k] (List.getElem_mem hkz)
      have HT := Lib.hid (take_succ_ zs k hkz)
      clear hr
      generalize zs[k] = x at *
      by_cases h7 : x % 8 = 7
      · have HX : Hid (levelOf x = -1) := if_pos h7
        go_wp2_with (first | (at_builtin; refine wpList_append_one rfl (.tmp 17) (.tmp 18) 26 rfl w.heap.size w w.heap.size 3 i0 (.int .i64 0) 8 Try.underlying26 hi hz0 hz1 hz2 rfl _ _ _ rfl hown _ _ rfl _ rfl (by simp) hb hb.size (Nat.le_refl _) hb.size (by omega) (by omega) ?_; intro v' w1 hown1 hb1 _ _))
        go_roundw
        case rel => exact ⟨k + 1, by omega, by go_num, by rw [HT.out]; simpa [levels, ints, HX.out] using hown1, hb1⟩
        case measure => simp [intOf]; omega
      · have HX : Hid (levelOf x = (x / 8) % 6) := if_neg h7
        go_wp2_with (first | (at_builtin; refine wpList_append_one rfl (.tmp 20) (.tmp 28) 26 rfl w.heap.size w w.heap.size 3 i0 (.int .i64 0) 8 Try.underlying26 hi hz0 hz1 hz2 rfl _ _ _ rfl hown _ _ rfl _ rfl (by simp) hb hb.size (Nat.le_refl _) hb.size (by omega) (by omega) ?_; intro v' w1 hown1 hb1 _ _))
        go_roundw
        case rel => exact ⟨k + 1, by omega, by go_num, by rw [HT.out]; simpa [levels, ints, HX.out] using hown1, hb1⟩
        case measure => simp [intOf]; omega
    · obtain rfl : n = k := by omega
      clear hr
      go_wp2
      go_ret
      refine ⟨_, rfl, ?_, hb⟩
      rw [List.take_of_length_le (by rw [HL.out]; omega)] at hown
      exact hown

set_option maxHeartbeats 400000 in
theorem bases_any (A : Option Addr) (n c : Nat) (zs : List Int) (w : World) (hr : Rd w 1 A n (ints .u8 zs)) (hn : n ≤ 1048576) (hz : ∀ z ∈ zs, 0 ≤ z ∧ z ≤ 255) :
    Calls Try.prog 21 #[.slice A n c] w fun e w' => ∃ v, e = .returned v ∧ w'.ownsRow w.heap.size 3 1 v n (ints .i64 (basesOf zs)) ∧ Below w.heap.size w w' := by
  obtain ⟨i0, hi, hz0, hz1, hz2⟩ := info_parts info3
  have hl : zs.length = n := by simpa using hr.1
  have HL := Lib.hid hl
  clear hl
  go_enter Try.func21, Try.ntmps21
  go_wp2
  go_loopw [3, 8] (fun v i wr => ∃ k : Nat, k ≤ n ∧ i = .int .i64 k ∧ wr.ownsRow w.heap.size 3 1 v k (ints .i64 (basesOf (zs.take k))) ∧ Below w.heap.size w wr)
    (fun _ i _ => n - (intOf i).toNat)
  case atStart => exact ⟨0, Nat.zero_le _, rfl, World.ownsRow_nil _ _ _ _, Below.refl _ _⟩
  case round =>
    obtain ⟨k, hk, rfl, hown, hb⟩ := hrel
    by_cases hlt : k < n
    · have hkz : k < zs.length := by rw [HL.out]; exact hlt
      obtain ⟨ad, rfl, hc⟩ := (hr.same hb).cell_ (ints_at (K := .u8) hkz)
      have hzk := hz zs[k] (List.getElem_mem hkz)
      have HT := Lib.hid (take_succ_ zs k hkz)
      clear hr
      generalize zs[k] = x at *
      go_wp2_with (first | (at_builtin; refine wpList_append_one rfl (.tmp 12) (.tmp 16) 26 rfl w.heap.size w w.heap.size 3 i0 (.int .i64 0) 8 Try.underlying26 hi hz0 hz1 hz2 rfl _ _ _ rfl hown _ _ rfl _ rfl (by simp) hb hb.size (Nat.le_refl _) hb.size (by omega) (by omega) ?_; intro v' w1 hown1 hb1 _ _))
      go_roundw
      case rel => exact ⟨k + 1, by omega, by go_num, by rw [HT.out]; simpa [basesOf, ints] using hown1, hb1⟩
      case measure => simp [intOf]; omega
    · obtain rfl : n = k := by omega
      clear hr
      go_wp2
      go_ret
      refine ⟨_, rfl, ?_, hb⟩
      rw [List.take_of_length_le (by rw [HL.out]; omega)] at hown
      exact hown

end Go.Proofs.Ytgkmpndebcdigaa
