/-
  Layer 14, the document's answer: the contracts of copied, ahead, behind, strong, and of the rules 1, 2, 3, 6, 7 over the program.
-/
import Derived.Test.YtmonkeencbhcmaaWkf
namespace Go.Proofs.Ytmonkeencbhcmaa.wk
open Go.RowKit

set_option maxHeartbeats 1000000 in
theorem copied_any (A : Option Addr) (n c : Nat) (cs : List Int) (w : World) (hr : Rd w 1 A n (ints .i64 cs)) (hn : n ≤ 2097152) :
    Calls Try.prog 39 #[.slice A n c] w fun e w' => ∃ v, e = .returned v ∧ w'.ownsRow w.heap.size 3 1 v n (ints .i64 cs) ∧ Below w.heap.size w w' := by
  obtain ⟨i0, hi, hz0, hz1, hz2⟩ := info_parts infoI
  go_enter Try.func39, Try.ntmps39
  go_wp2_with (at_builtin; refine wpList_append_rd rfl (.tmp 4) (.tmp 5) 24 rfl w.heap.size w w.heap.size 3 i0 (.int .i64 0) 1 8 Try.underlying24 hi hz0 hz1 hz2 rfl (by decide) _ _ _ rfl (World.ownsRow_nil _ _ _ _) _ _ _ _ rfl hr ints_one (Below.refl _ _) (Nat.le_refl _) (Nat.le_refl _) (Nat.le_refl _) (by omega) (by omega) ?_; intro v3 w3 hown3 hb3 u1 u2; clear u1 u2; simp only [Nat.zero_add, List.nil_append] at hown3)
  go_ret
  exact ⟨_, rfl, hown3, hb3⟩

theorem ahead_any (A : Option Addr) (n c : Nat) (cs : List Int) (k : Nat) (sos r : Int) (w : World) (hr : Rd w 1 A n (ints .i64 cs)) (hn : n ≤ 2097152) (hk : k ≤ n)
    (h : (k = 0 ∧ r = sos) ∨ ∃ j, k = j + 1 ∧ cs[j]? = some r) :
    Calls Try.prog 42 #[.slice A n c, .int .i64 k, .int .i64 sos] w fun e w' => e = .returned (.int .i64 r) ∧ w = w' := by
  rcases h with ⟨rfl, rfl⟩ | ⟨j, rfl, hj⟩
  · go_enter Try.func42, Try.ntmps42
    go_wp2
    go_ret
    exact ⟨rfl, rfl⟩
  · obtain ⟨ad, rfl, hc⟩ := hr.cell_ (show (ints .i64 cs)[j]? = some (.int .i64 r) from by simp [ints, hj])
    clear hr hj
    obtain ⟨k, hk'⟩ : ∃ k, j + 1 = k := ⟨_, rfl⟩
    have h1 : (k == 0) = false := by simp; omega
    have h2 : ((k : Int) == 0) = false := by simp; omega
    have h3 : (k : Int) - 1 = (j : Int) := by omega
    have h4 : (j : Int) < (n : Int) := by omega
    have h5 : j < n := by omega
    have h6 : 1 ≤ (k : Int) := by omega
    rw [hk'] at hk ⊢
    clear hk'
    go_enter Try.func42, Try.ntmps42
    go_wp2
    go_ret
    exact ⟨rfl, rfl⟩

theorem behind_any (A : Option Addr) (n c : Nat) (cs : List Int) (k : Nat) (r : Int) (w : World) (hr : Rd w 1 A n (ints .i64 cs)) (hn : n ≤ 2097152) (hk : k < n)
    (h : (k + 1 = n ∧ r = -1) ∨ cs[k + 1]? = some r) :
    Calls Try.prog 41 #[.slice A n c, .int .i64 k] w fun e w' => e = .returned (.int .i64 r) ∧ w = w' := by
  rcases h with ⟨h1, rfl⟩ | hj
  · clear hr
    have h2 : (n : Int) ≤ (k : Int) + 1 := by omega
    have h3 : n ≤ k + 1 := by omega
    clear h1
    go_enter Try.func41, Try.ntmps41
    go_wp2
    go_ret
    exact ⟨rfl, rfl⟩
  · have hl := (List.getElem?_eq_some_iff.1 hj).1
    have hcs : cs.length = n := by simpa using hr.1
    obtain ⟨ad, rfl, hc⟩ := hr.cell_ (show (ints .i64 cs)[k + 1]? = some (.int .i64 r) from by simp [ints, hj])
    obtain ⟨m, hm⟩ : ∃ m, k + 1 = m := ⟨_, rfl⟩
    rw [hm] at hc
    have h1 : m < n := by omega
    have h2 : (m : Int) < (n : Int) := by omega
    have h3 : (k : Int) + 1 = (m : Int) := by omega
    clear hr hj hl hcs hm
    go_enter Try.func41, Try.ntmps41
    go_wp2
    go_ret
    exact ⟨rfl, rfl⟩

/-- the last strong class ahead of a place -/
def strongTo (cs : List Int) (sos : Int) : Nat → Int
  | 0 => sos
  | k + 1 => if strongC (cs.getD k 0) then cs.getD k 0 else strongTo cs sos k

set_option maxHeartbeats 1000000 in
theorem strong2_any (A : Option Addr) (n c : Nat) (cs : List Int) (k : Nat) (sos : Int) (w : World) (hr : Rd w 1 A n (ints .i64 cs)) (hn : n ≤ 2097152) (hk : k ≤ n) :
    Calls Try.prog 40 #[.slice A n c, .int .i64 k, .int .i64 sos] w fun e w' => e = .returned (.int .i64 (strongTo cs sos k)) ∧ w = w' := by
  have HL := Lib.hid (show cs.length = n by simpa using hr.1)
  go_enter Try.func40, Try.ntmps40
  go_wp2
  go_loop [7] (fun i => ∃ (j : Nat) (q : Int), j ≤ k ∧ i = .int .i64 q ∧ q = (j : Int) - 1 ∧ strongTo cs sos k = strongTo cs sos j) (fun i => (intOf i + 1).toNat)
  case atStart => exact ⟨k, _, Nat.le_refl _, rfl, rfl, rfl⟩
  case round =>
    obtain ⟨j, q, hj, rfl, hq, hs⟩ := hrel
    have HS := Lib.hid hs
    clear hs
    rcases j with _ | j
    · obtain rfl : q = -1 := by omega
      clear hq
      go_wp2
      go_ret
      exact ⟨ret_int HS.out.symm, rfl⟩
    · obtain rfl : q = (j : Int) := by omega
      clear hq
      have hjc : j < cs.length := by rw [HL.out]; omega
      obtain ⟨ad, rfl, hc⟩ := hr.cell_ (ints_at (K := .i64) hjc)
      have hst : strongTo cs sos (j + 1) = if strongC cs[j] then cs[j] else strongTo cs sos j := by
        rw [strongTo, List.getD_eq_getElem?_getD, List.getElem?_eq_getElem hjc]; rfl
      have HT := Lib.hid (HS.out.trans hst)
      have y1 : (j : Int) < (n : Int) := by omega
      have y2 : j < n := by omega
      clear hst hr
      generalize cs[j] = x at *
      have hcases : x = 0 ∨ x = 1 ∨ x = 2 ∨ ((x == 0) = false ∧ (x == 1) = false ∧ (x == 2) = false ∧ strongC x = false) := by
        by_cases h0 : x = 0
        · exact .inl h0
        · by_cases h1 : x = 1
          · exact .inr (.inl h1)
          · by_cases h2 : x = 2
            · exact .inr (.inr (.inl h2))
            · exact .inr (.inr (.inr (by simp [strongC, h0, h1, h2])))
      rcases hcases with rfl | rfl | rfl | ⟨h0, h1, h2, h3⟩
      · go_wp2
        go_ret
        exact ⟨ret_int HT.out.symm, rfl⟩
      · go_wp2
        go_ret
        exact ⟨ret_int HT.out.symm, rfl⟩
      · go_wp2
        go_ret
        exact ⟨ret_int HT.out.symm, rfl⟩
      · have HT2 : Hid (strongTo cs sos k = strongTo cs sos j) := by have := HT.out; rw [h3] at this; exact this
        clear HT h3
        go_wp2
        go_round
        case rel => exact ⟨j, _, by omega, rfl, rfl, HT2.out⟩
        case measure => simp [intOf] <;> omega
end Go.Proofs.Ytmonkeencbhcmaa.wk
