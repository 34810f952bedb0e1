/-
  Layer 20, the document's answer: units as cells; the contracts of the functions that go over units, and of the predicates, over the program.
-/
import Derived.Test.YtbobhcffbgnfkaaLr2
import Derived.Test.YtbobhcffbgnfkaaLrw
namespace Go.Proofs.Ytbobhcffbgnfkaa.lr
open Go.RowKit

def rcells1 (v : V) : List Value := [.int .i64 v.1, .bool v.2]
def rcells (us : List V) : List Value := us.flatMap rcells1
theorem rcells_length (us : List V) : (rcells us).length = us.length * 2 := by
  induction us with
  | nil => rfl
  | cons u r ih => simp only [rcells, List.flatMap_cons, List.length_append, List.length_cons] at ih ⊢; rw [ih]; simp [rcells1]; omega
theorem rcells_append (a b : List V) : rcells (a ++ b) = rcells a ++ rcells b := by simp [rcells]
theorem rcells_at {us : List V} {k : Nat} {u : V} (h : us[k]? = some u) (f : Nat) (hf : f < 2) : (rcells us)[k * 2 + f]? = (rcells1 u)[f]? := by
  induction us generalizing k with
  | nil => simp at h
  | cons v r ih =>
    cases k with
    | zero =>
      simp only [List.getElem?_cons_zero, Option.some.injEq] at h
      subst h
      simp only [rcells, List.flatMap_cons]
      rw [List.getElem?_append_left (by simp [rcells1]; omega)]
      simp
    | succ k =>
      have := ih (by simpa using h)
      simp only [rcells, List.flatMap_cons]
      rw [List.getElem?_append_right (by simp [rcells1]; omega)]
      rw [show (k + 1) * 2 + f - (rcells1 v).length = k * 2 + f from by simp [rcells1]; omega]
      exact this

/-- a slice value reads as the document's units -/
def RU (w : World) (A : Option Addr) (n : Nat) (us : List V) : Prop :=
  us.length = n ∧ (0 < n → ∃ g, A = some ⟨g, 0, none⟩ ∧ ∀ k, k < n → w.cell? ⟨g, k * 2, none⟩ = some (.int .i64 (cl us k)) ∧ w.cell? ⟨g, k * 2 + 1, none⟩ = some (.bool (us.getD k (0, false)).2))
theorem RU.of_own {w : World} {base n c : Nat} {A : Option Addr} {us : List V} (hl : us.length = n) (h : w.ownsRow base 50 2 (.slice A n c) n (rcells us)) : RU w A n us := by
  refine ⟨hl, fun h0 => ?_⟩
  obtain ⟨g, cap, hv, _, _⟩ := h.form h0
  injection hv with hA hnn hcc
  subst hA; subst hcc
  refine ⟨g, rfl, fun k hk => ?_⟩
  have hu : us[k]? = some (us.getD k (0, false)) := by rw [List.getD_eq_getElem?_getD, List.getElem?_eq_getElem (by omega)]; rfl
  exact ⟨(h.cellAt (k * 2) (by omega)).trans (rcells_at hu 0 (by omega)), (h.cellAt (k * 2 + 1) (by omega)).trans (rcells_at hu 1 (by omega))⟩

theorem rletter_any (c : Int) (w : World) : Calls Try.prog 28 #[.int .i64 c] w fun e w' => e = .returned (.bool (letterB c)) ∧ w = w' := by
  go_enter Try.func28, Try.ntmps28
  go_wp2
  all_goals go_ret
  all_goals (refine ⟨?_, rfl⟩; simp_all [letterB])
theorem rpic_any (c : Int) (w : World) : Calls Try.prog 29 #[.int .i64 c] w fun e w' => e = .returned (.bool (picB c)) ∧ w = w' := by
  go_enter Try.func29, Try.ntmps29
  go_wp2
  all_goals go_ret
  all_goals (refine ⟨?_, rfl⟩; simp_all [picB])
theorem rmon_any (c : Int) (w : World) : Calls Try.prog 30 #[.int .i64 c] w fun e w' => e = .returned (.bool (monB c)) ∧ w = w' := by
  go_enter Try.func30, Try.ntmps30
  go_wp2
  all_goals go_ret
  all_goals (refine ⟨?_, rfl⟩; simp_all [monB])
theorem rkor_any (c : Int) (w : World) : Calls Try.prog 32 #[.int .i64 c] w fun e w' => e = .returned (.bool (korB c)) ∧ w = w' := by
  go_enter Try.func32, Try.ntmps32
  go_wp2
  all_goals go_ret
  all_goals (refine ⟨?_, rfl⟩; simp_all [korB])

set_option maxHeartbeats 1000000 in
theorem over_any (A : Option Addr) (n c : Nat) (us : List V) (k : Nat) (w : World) (hr : RU w A n us) (hn : n ≤ 2097152) (hk : k ≤ n) :
    Calls Try.prog 23 #[.slice A n c, .int .i64 k] w fun e w' => e = .returned (.int .i64 (overS us k)) ∧ w = w' := by
  go_enter Try.func23, Try.ntmps23
  go_wp2
  go_loop [5] (fun i => ∃ (j : Nat) (q : Int), j ≤ k ∧ i = .int .i64 q ∧ q = (j : Int) - 1 ∧ overS us k = overS us j) (fun i => (intOf i + 1).toNat)
  case atStart => exact ⟨k, _, Nat.le_refl _, rfl, rfl, rfl⟩
  case round =>
    obtain ⟨j, q, hj, rfl, hq, hs⟩ := hrel
    have HS := Lib.hid hs
    clear hs
    rcases j with _ | j
    · obtain rfl : q = -1 := by omega
      clear hq
      go_wp2
      go_ret
      exact ⟨ret_int HS.out.symm, rfl⟩
    · obtain rfl : q = (j : Int) := by omega
      clear hq
      obtain ⟨g, rfl, hc⟩ := hr.2 (by omega)
      have e1 := (hc j (by omega)).1
      have y1 : (j : Int) < (n : Int) := by omega
      have y2 : j < n := by omega
      have HT := Lib.hid (show overS us (j + 1) = if cl us j = 9 then overS us j else cl us j from rfl)
      clear hc hr
      generalize cl us j = x at *
      by_cases h9 : x = 9
      · subst h9
        have HT2 : Hid (overS us k = overS us j) := by show _ = _; rw [HS.out, HT.out]; rfl
        clear HT HS
        go_wp2
        go_round
        case rel => exact ⟨j, _, by omega, rfl, rfl, HT2.out⟩
        case measure => simp [intOf] <;> omega
      · have h0 : (x == 9) = false := by simpa using h9
        have h1 : (x != 9) = true := by simpa using h9
        have HT2 : Hid (overS us k = x) := by show _ = _; rw [HS.out, HT.out, if_neg h9]
        clear HT HS h9
        go_wp2
        all_goals go_ret
        all_goals exact ⟨ret_int HT2.out.symm, rfl⟩

set_option maxHeartbeats 1000000 in
theorem num_any (A : Option Addr) (n c : Nat) (us : List V) (k : Nat) (w : World) (hr : RU w A n us) (hn : n ≤ 2097152) (hk : k ≤ n) :
    Calls Try.prog 31 #[.slice A n c, .int .i64 k] w fun e w' => e = .returned (.bool (numR us k)) ∧ w = w' := by
  go_enter Try.func31, Try.ntmps31
  go_wp2
  go_loop [5] (fun i => ∃ (j : Nat) (q : Int), j ≤ k ∧ i = .int .i64 q ∧ q = (j : Int) - 1 ∧ numR us k = numR us j) (fun i => (intOf i + 1).toNat)
  case atStart => exact ⟨k, _, Nat.le_refl _, rfl, rfl, rfl⟩
  case round =>
    obtain ⟨j, q, hj, rfl, hq, hs⟩ := hrel
    have HS := Lib.hid hs
    clear hs
    rcases j with _ | j
    · obtain rfl : q = -1 := by omega
      clear hq
      go_wp2
      go_ret
      exact ⟨ret_bool HS.out.symm, rfl⟩
    · obtain rfl : q = (j : Int) := by omega
      clear hq
      obtain ⟨g, rfl, hc⟩ := hr.2 (by omega)
      have e1 := (hc j (by omega)).1
      have y1 : (j : Int) < (n : Int) := by omega
      have y2 : j < n := by omega
      have HT := Lib.hid (show numR us (j + 1) = (cl us j == 27 || (cl us j == 26 || cl us j == 25) && numR us j) from rfl)
      clear hc hr
      generalize cl us j = x at *
      rcases (show x = 27 ∨ x = 26 ∨ x = 25 ∨ (¬ x = 27 ∧ ¬ x = 26 ∧ ¬ x = 25) from by omega) with rfl | rfl | rfl | ⟨h1, h2, h3⟩
      · have HT2 : Hid (numR us k = true) := by show _ = _; rw [HS.out, HT.out]; rfl
        clear HT HS
        go_wp2
        go_ret
        exact ⟨ret_bool HT2.out.symm, rfl⟩
      · have HT2 : Hid (numR us k = numR us j) := by show _ = _; rw [HS.out, HT.out]; rfl
        clear HT HS
        go_wp2
        go_round
        case rel => exact ⟨j, _, by omega, rfl, rfl, HT2.out⟩
        case measure => simp [intOf] <;> omega
      · have HT2 : Hid (numR us k = numR us j) := by show _ = _; rw [HS.out, HT.out]; rfl
        clear HT HS
        go_wp2
        go_round
        case rel => exact ⟨j, _, by omega, rfl, rfl, HT2.out⟩
        case measure => simp [intOf] <;> omega
      · have z1 : (x == 27) = false := by simpa using h1
        have z2 : (x == 26) = false := by simpa using h2
        have z3 : (x == 25) = false := by simpa using h3
        have HT2 : Hid (numR us k = false) := by show _ = _; rw [HS.out, HT.out, z1, z2, z3]; rfl
        have z4 : (x != 26) = true := by simpa using h2
        have z5 : (x != 25) = true := by simpa using h3
        clear HT HS h1 h2 h3
        go_wp2
        all_goals go_ret
        all_goals exact ⟨ret_bool HT2.out.symm, rfl⟩

set_option maxHeartbeats 1000000 in
theorem odd_any (A : Option Addr) (n c : Nat) (us : List V) (k : Nat) (w : World) (hr : RU w A n us) (hn : n ≤ 2097152) (hk : k ≤ n) :
    Calls Try.prog 33 #[.slice A n c, .int .i64 k] w fun e w' => e = .returned (.bool (decide (oddN us k % 2 = 1))) ∧ w = w' := by
  go_enter Try.func33, Try.ntmps33
  go_wp2
  go_loop [5, 6] (fun m i => ∃ (j p : Nat) (q : Int), j ≤ k ∧ m = .int .i64 p ∧ i = .int .i64 q ∧ q = (j : Int) - 1 ∧ p + j = k ∧ oddN us k = p + oddN us j) (fun _ i => (intOf i + 1).toNat)
  case atStart => exact ⟨k, 0, _, Nat.le_refl _, rfl, rfl, rfl, by omega, by omega⟩
  case round =>
    obtain ⟨j, p, q, hj, rfl, rfl, hq, hp, hs⟩ := hrel
    have HS := Lib.hid hs
    clear hs
    rcases j with _ | j
    · obtain rfl : q = -1 := by omega
      clear hq
      have HE : Hid (decide (oddN us k % 2 = 1) = decide ((p : Int) % 2 = 1)) := by
        show _ = _
        rw [HS.out]
        have h0 : oddN us 0 = 0 := rfl
        rw [Bool.eq_iff_iff, decide_eq_true_iff, decide_eq_true_iff, h0]
        omega
      clear HS
      go_wp2
      all_goals go_ret
      all_goals exact ⟨ret_bool (by rw [HE.out]; first | rfl | (rw [Bool.eq_iff_iff]; simp; omega)), rfl⟩
    · obtain rfl : q = (j : Int) := by omega
      clear hq
      obtain ⟨g, rfl, hc⟩ := hr.2 (by omega)
      have e1 := (hc j (by omega)).1
      have y1 : (j : Int) < (n : Int) := by omega
      have y2 : j < n := by omega
      have HT := Lib.hid (show oddN us (j + 1) = if cl us j = 33 then oddN us j + 1 else 0 from rfl)
      clear hc hr
      generalize cl us j = x at *
      by_cases h33 : x = 33
      · subst h33
        have HT2 : Hid (oddN us k = (p + 1) + oddN us j) := by show _ = _; rw [HS.out, HT.out, if_pos rfl]; omega
        clear HT HS
        go_wp2
        go_round
        case rel => exact ⟨j, p + 1, _, by omega, by go_num, rfl, rfl, by omega, HT2.out⟩
        case measure => simp [intOf] <;> omega
      · have h0 : (x == 33) = false := by simpa using h33
        have HE : Hid (decide (oddN us k % 2 = 1) = decide ((p : Int) % 2 = 1)) := by
          show _ = _
          rw [HS.out, HT.out, if_neg h33]
          rw [Bool.eq_iff_iff, decide_eq_true_iff, decide_eq_true_iff]
          omega
        clear HT HS h33
        go_wp2
        all_goals go_ret
        all_goals exact ⟨ret_bool (by rw [HE.out]; first | rfl | (rw [Bool.eq_iff_iff]; simp; omega)), rfl⟩
end Go.Proofs.Ytbobhcffbgnfkaa.lr
