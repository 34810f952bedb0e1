/-
  Layer 19: the contracts of the statements' helper Classes and of lbone.Class over the program.
-/
import Derived.Test.YtbobhcffbgnfkaaRows
import Derived.Test.YtbobhcffbgnfkaaBase
namespace Go.Proofs.Ytbobhcffbgnfkaa.lb
open Go.RowKit

theorem infoCl : (Try.prog.info? 29).map (fun i => (i.zero, i.size, i.bytes)) = some (some (.int .u8 0), 1, 1) := by kernel_rfl

/-- boustrophedonlaw19.Classes -/
def classes43 (zs : List Int) : List Int := zs.map (· % 43)

set_option maxHeartbeats 400000 in
theorem classes43_any (A : Option Addr) (n c : Nat) (zs : List Int) (w : World) (hr : Rd w 1 A n (ints .u8 zs)) (hn : n ≤ 1048576) (hz : ∀ z ∈ zs, 0 ≤ z ∧ z ≤ 255) :
    Calls Try.prog 11 #[.slice A n c] w fun e w' => ∃ v, e = .returned v ∧ w'.ownsRow w.heap.size 29 1 v n (ints .u8 (classes43 zs)) ∧ Below w.heap.size w w' := by
  obtain ⟨i0, hi, hz0, hz1, hz2⟩ := info_parts infoCl
  have hl : zs.length = n := by simpa using hr.1
  have HL := Lib.hid hl
  clear hl
  go_enter Try.func11, Try.ntmps11
  go_wp2
  go_loopw [3, 4] (fun v i wr => ∃ k : Nat, k ≤ n ∧ i = .int .i64 k ∧ wr.ownsRow w.heap.size 29 1 v k (ints .u8 (classes43 (zs.take k))) ∧ Below w.heap.size w wr)
    (fun _ i _ => n - (intOf i).toNat)
  case atStart => exact ⟨0, Nat.zero_le _, rfl, World.ownsRow_nil _ _ _ _, Below.refl _ _⟩
  case round =>
    obtain ⟨k, hk, rfl, hown, hb⟩ := hrel
    by_cases hlt : k < n
    · have hkz : k < zs.length := by rw [HL.out]; exact hlt
      obtain ⟨ad, rfl, hc⟩ := (hr.same hb).cell_ (ints_at (K := .u8) hkz)
      have hzk := hz zs[k] (List.getElem_mem hkz)
      have HT := Lib.hid (take_succ_ zs k hkz)
      clear hr
      generalize zs[k] = x at *
      go_wp2_with (first | (at_builtin; refine wpList_append_one rfl (.tmp 11) (.tmp 17) 27 rfl w.heap.size w w.heap.size 29 i0 (.int .u8 0) 1 Try.underlying27 hi hz0 hz1 hz2 rfl _ _ _ rfl hown _ _ rfl _ rfl (by simp) hb hb.size (Nat.le_refl _) hb.size (by omega) (by omega) ?_; intro v' w1 hown1 hb1 _ _))
      go_roundw
      case rel => exact ⟨k + 1, by omega, by go_num, by rw [HT.out]; simpa [classes43, ints] using hown1, hb1⟩
      case measure => simp [intOf]; omega
    · obtain rfl : n = k := by omega
      clear hr
      go_wp2
      go_ret
      refine ⟨_, rfl, ?_, hb⟩
      rw [List.take_of_length_le (by rw [HL.out]; omega)] at hown
      exact hown

/-- lbone.Class -/
def cls (c : Int) : Int := if c = 39 ∨ c = 41 ∨ c = 0 ∨ c = 40 then 1 else if c = 42 then 18 else c

theorem cls_any (c : Int) (w : World) : Calls Try.prog 21 #[.int .u8 c] w fun e w' => e = .returned (.int .u8 (cls c)) ∧ w = w' := by
  go_enter Try.func21, Try.ntmps21
  go_wp2
  all_goals go_ret
  all_goals (refine ⟨ret_int ?_, rfl⟩; simp_all [cls])
end Go.Proofs.Ytbobhcffbgnfkaa.lb
