/-
  Layer 14, the document's answer: the contracts of the rules 1, 2, 3, 6, 7 over the program.
-/
import Derived.Test.YtmonkeencbhcmaaWkg
namespace Go.Proofs.Ytmonkeencbhcmaa.wk
open Go.RowKit

set_option maxRecDepth 100000 in
set_option maxHeartbeats 4000000 in
theorem rule1_any (A : Option Addr) (n c : Nat) (cs : List Int) (sos : Int) (w : World) (hr : Rd w 1 A n (ints .i64 cs)) (hn : n ≤ 2097152) :
    Calls Try.prog 36 #[.slice A n c, .int .i64 sos] w fun e w' => ∃ v, e = .returned v ∧ w'.ownsRow w.heap.size 3 1 v n (ints .i64 (rule1L sos cs)) ∧ Below w.heap.size w w' := by
  have HL := Lib.hid (show cs.length = n by simpa using hr.1)
  go_enter Try.func36, Try.ntmps36
  go_wp2_with (go_at_call 39; (with_reducible refine (copied_any _ _ _ cs _ hr hn).mono ?_); rintro e w3 ⟨v3, rfl, hown3, hb3⟩; obtain ⟨A3, c3, rfl, _, _⟩ := own_slice hown3)
  go_loopw [6] (fun i wr => ∃ (k : Nat) (ah : Int) (done : List Int), k ≤ n ∧ done.length = k ∧ i = .int .i64 k ∧ rule1L sos cs = done ++ rule1L ah (cs.drop k) ∧
      ((k = 0 ∧ ah = sos) ∨ ∃ j, k = j + 1 ∧ done[j]? = some ah) ∧ wr.ownsRow w.heap.size 3 1 (.slice A3 n c3) n (ints .i64 (done ++ cs.drop k)) ∧ Below w.heap.size w wr)
    (fun i _ => n - (intOf i).toNat)
  case atStart => exact ⟨0, sos, [], Nat.zero_le _, rfl, rfl, by simp, .inl ⟨rfl, rfl⟩, by simpa using hown3, hb3⟩
  case round =>
    clear hown3 hb3 hr
    obtain ⟨k, ah, done, hk, hd, rfl, hf, hah, hown, hb⟩ := hrel
    by_cases hlt : k < n
    · have hkc : k < cs.length := by rw [HL.out]; exact hlt
      obtain ⟨g, cap, hv, hg1, hg2⟩ := hown.form (by omega)
      injection hv with hA hnn hcc
      subst hA; subst hcc
      rw [List.drop_eq_getElem_cons hkc] at hf hown
      generalize cs[k] = x at *
      have HST : Hid (∀ y : Int, (wr.setCell ⟨g, k, none⟩ (.int .i64 y)).ownsRow w.heap.size 3 1 (.slice (some ⟨g, 0, none⟩) n c3) n (ints .i64 (done ++ [y] ++ cs.drop (k + 1)))) := fun y => by
        have := (hown.stored k (.int .i64 y)).1
        rwa [ints_set, row_set _ _ _ _ k hd] at this
      have hck := (hown.cellAt k (by omega)).trans (ints_row_at _ _ _ k hd)
      have hfk := hown.frozenAt k
      have HBL := Lib.hid (fun y : Int => hb.setCell (p := ⟨g, k, none⟩) hg1 (.int .i64 y))
      have HO := Lib.hid (show wr.ownsRow w.heap.size 3 1 (.slice (some ⟨g, 0, none⟩) n c3) n (ints .i64 (done ++ [x] ++ cs.drop (k + 1))) from by simpa using hown)
      have HF := Lib.hid hf
      have HD := Lib.hid (show ∀ y : Int, (done ++ [y]).length = k + 1 from fun y => by simp [hd])
      have HR := Lib.hid (Rd.of_own hown)
      have HAH : Hid ((k = 0 ∧ ah = sos) ∨ ∃ j, k = j + 1 ∧ (done ++ x :: cs.drop (k + 1))[j]? = some ah) := by
        rcases hah with h | ⟨j, h1, h2⟩
        · exact .inl h
        · exact .inr ⟨j, h1, by rw [List.getElem?_append_left (by omega)]; exact h2⟩
      have HNX : Hid (∀ y : Int, (k + 1 = 0 ∧ y = sos) ∨ ∃ j, k + 1 = j + 1 ∧ (done ++ [y])[j]? = some y) := fun y => .inr ⟨k, rfl, by rw [← hd]; simp⟩
      clear hf hown hd hah
      by_cases hx : x = 8
      · subst hx
        have hin : (19 ≤ ah ∧ ah ≤ 22) ∨ ¬ (19 ≤ ah ∧ ah ≤ 22) := Decidable.em _
        go_wp2_with (go_at_call 42; (with_reducible refine (ahead_any _ _ _ _ k sos ah _ HR.out hn hk HAH.out).mono ?_); rintro e w' ⟨rfl, rfl⟩)
        all_goals
          go_roundw
          case rel => exact ⟨k + 1, _, done ++ [_], by omega, HD.out _, by go_num, by rw [HF.out]; clear HST HBL HD HO HR HAH HNX; simp only [rule1L, if_true]; first | (rw [if_pos (by omega)]; simp) | (rw [if_neg (by omega)]; simp), HNX.out _, HST.out _, HBL.out _⟩
          case measure => simp [intOf]; omega
      · have hx' : (x != 8) = true := by simpa using hx
        have HX := Lib.hid hx
        clear hx
        go_wp2
        go_roundw
        case rel => exact ⟨k + 1, _, done ++ [x], by omega, HD.out _, by go_num, by rw [HF.out]; simp only [rule1L, if_neg HX.out]; simp, HNX.out _, HO.out, hb⟩
        case measure => simp [intOf]; omega
    · obtain rfl : n = k := by omega
      go_wp2
      go_ret
      rw [List.drop_eq_nil_of_le (by rw [HL.out]; omega)] at hf hown
      refine ⟨_, rfl, ?_, hb⟩
      rw [hf]; simpa [rule1L] using hown

set_option maxRecDepth 100000 in
set_option maxHeartbeats 4000000 in
theorem rule2_any (A : Option Addr) (n c : Nat) (cs : List Int) (sos : Int) (w : World) (hr : Rd w 1 A n (ints .i64 cs)) (hn : n ≤ 2097152) :
    Calls Try.prog 35 #[.slice A n c, .int .i64 sos] w fun e w' => ∃ v, e = .returned v ∧ w'.ownsRow w.heap.size 3 1 v n (ints .i64 (rule2L sos cs)) ∧ Below w.heap.size w w' := by
  have HL := Lib.hid (show cs.length = n by simpa using hr.1)
  go_enter Try.func35, Try.ntmps35
  go_wp2_with (go_at_call 39; (with_reducible refine (copied_any _ _ _ cs _ hr hn).mono ?_); rintro e w3 ⟨v3, rfl, hown3, hb3⟩; obtain ⟨A3, c3, rfl, _, _⟩ := own_slice hown3)
  go_loopw [6] (fun i wr => ∃ (k : Nat) (done : List Int), k ≤ n ∧ done.length = k ∧ i = .int .i64 k ∧ rule2L sos cs = done ++ rule2L (strongTo cs sos k) (cs.drop k) ∧
      wr.ownsRow w.heap.size 3 1 (.slice A3 n c3) n (ints .i64 (done ++ cs.drop k)) ∧ Below w.heap.size w wr)
    (fun i _ => n - (intOf i).toNat)
  case atStart => exact ⟨0, [], Nat.zero_le _, rfl, rfl, by simp [strongTo], by simpa using hown3, hb3⟩
  case round =>
    clear hown3 hb3
    obtain ⟨k, done, hk, hd, rfl, hf, hown, hb⟩ := hrel
    by_cases hlt : k < n
    · have hkc : k < cs.length := by rw [HL.out]; exact hlt
      obtain ⟨g, cap, hv, hg1, hg2⟩ := hown.form (by omega)
      injection hv with hA hnn hcc
      subst hA; subst hcc
      have hrk := hr.same hb
      obtain ⟨ad, rfl, hc⟩ := hrk.cell_ (ints_at (K := .i64) hkc)
      have hsn : strongTo cs sos (k + 1) = if strongC cs[k] then cs[k] else strongTo cs sos k := by
        rw [strongTo, List.getD_eq_getElem?_getD, List.getElem?_eq_getElem hkc]; rfl
      rw [List.drop_eq_getElem_cons hkc] at hf hown
      have HC := Lib.hid (strong2_any _ n c cs k sos wr hrk hn hk)
      have HSN := Lib.hid hsn
      clear hsn hrk
      generalize cs[k] = x at *
      generalize strongTo cs sos k = st at *
      have HST : Hid (∀ y : Int, (wr.setCell ⟨g, k, none⟩ (.int .i64 y)).ownsRow w.heap.size 3 1 (.slice (some ⟨g, 0, none⟩) n c3) n (ints .i64 (done ++ [y] ++ cs.drop (k + 1)))) := fun y => by
        have := (hown.stored k (.int .i64 y)).1
        rwa [ints_set, row_set _ _ _ _ k hd] at this
      have hck := (hown.cellAt k (by omega)).trans (ints_row_at _ _ _ k hd)
      have hfk := hown.frozenAt k
      have HBL := Lib.hid (fun y : Int => hb.setCell (p := ⟨g, k, none⟩) hg1 (.int .i64 y))
      have HO := Lib.hid (show wr.ownsRow w.heap.size 3 1 (.slice (some ⟨g, 0, none⟩) n c3) n (ints .i64 (done ++ [x] ++ cs.drop (k + 1))) from by simpa using hown)
      have HF := Lib.hid hf
      have HD := Lib.hid (show ∀ y : Int, (done ++ [y]).length = k + 1 from fun y => by simp [hd])
      clear hf hown hd hr
      have hcases : (x = 3 ∧ st = 2) ∨ (x = 3 ∧ (st == 2) = false) ∨ (x == 3) = false := by
        by_cases h3 : x = 3
        · by_cases hs : st = 2
          · exact .inl ⟨h3, hs⟩
          · exact .inr (.inl ⟨h3, by simpa using hs⟩)
        · exact .inr (.inr (by simpa using h3))
      rcases hcases with ⟨rfl, rfl⟩ | ⟨rfl, hs⟩ | h3
      all_goals
        go_wp2_with (go_at_call 40; (with_reducible refine HC.out.mono ?_); rintro e w' ⟨rfl, rfl⟩)
        go_roundw
        case rel =>
          first
            | exact ⟨k + 1, done ++ [_], by omega, HD.out _, by go_num, by rw [HF.out, HSN.out]; clear HST HBL HD HO HC; simp_all [rule2L], HST.out _, HBL.out _⟩
            | exact ⟨k + 1, done ++ [_], by omega, HD.out _, by go_num, by rw [HF.out, HSN.out]; clear HST HBL HD HO HC; simp_all [rule2L], HO.out, hb⟩
        case measure => simp [intOf]; omega
    · obtain rfl : n = k := by omega
      go_wp2
      go_ret
      rw [List.drop_eq_nil_of_le (by rw [HL.out]; omega)] at hf hown
      refine ⟨_, rfl, ?_, hb⟩
      rw [hf]; simpa [rule2L] using hown

set_option maxRecDepth 100000 in
set_option maxHeartbeats 4000000 in
theorem rule7_any (A : Option Addr) (n c : Nat) (cs : List Int) (sos : Int) (w : World) (hr : Rd w 1 A n (ints .i64 cs)) (hn : n ≤ 2097152) :
    Calls Try.prog 30 #[.slice A n c, .int .i64 sos] w fun e w' => ∃ v, e = .returned v ∧ w'.ownsRow w.heap.size 3 1 v n (ints .i64 (rule7L sos cs)) ∧ Below w.heap.size w w' := by
  have HL := Lib.hid (show cs.length = n by simpa using hr.1)
  go_enter Try.func30, Try.ntmps30
  go_wp2_with (go_at_call 39; (with_reducible refine (copied_any _ _ _ cs _ hr hn).mono ?_); rintro e w3 ⟨v3, rfl, hown3, hb3⟩; obtain ⟨A3, c3, rfl, _, _⟩ := own_slice hown3)
  go_loopw [6] (fun i wr => ∃ (k : Nat) (done : List Int), k ≤ n ∧ done.length = k ∧ i = .int .i64 k ∧ rule7L sos cs = done ++ rule7L (strongTo cs sos k) (cs.drop k) ∧
      wr.ownsRow w.heap.size 3 1 (.slice A3 n c3) n (ints .i64 (done ++ cs.drop k)) ∧ Below w.heap.size w wr)
    (fun i _ => n - (intOf i).toNat)
  case atStart => exact ⟨0, [], Nat.zero_le _, rfl, rfl, by simp [strongTo], by simpa using hown3, hb3⟩
  case round =>
    clear hown3 hb3
    obtain ⟨k, done, hk, hd, rfl, hf, hown, hb⟩ := hrel
    by_cases hlt : k < n
    · have hkc : k < cs.length := by rw [HL.out]; exact hlt
      obtain ⟨g, cap, hv, hg1, hg2⟩ := hown.form (by omega)
      injection hv with hA hnn hcc
      subst hA; subst hcc
      have hrk := hr.same hb
      obtain ⟨ad, rfl, hc⟩ := hrk.cell_ (ints_at (K := .i64) hkc)
      have hsn : strongTo cs sos (k + 1) = if strongC cs[k] then cs[k] else strongTo cs sos k := by
        rw [strongTo, List.getD_eq_getElem?_getD, List.getElem?_eq_getElem hkc]; rfl
      rw [List.drop_eq_getElem_cons hkc] at hf hown
      have HC := Lib.hid (strong2_any _ n c cs k sos wr hrk hn hk)
      have HSN := Lib.hid hsn
      clear hsn hrk
      generalize cs[k] = x at *
      generalize strongTo cs sos k = st at *
      have HST : Hid (∀ y : Int, (wr.setCell ⟨g, k, none⟩ (.int .i64 y)).ownsRow w.heap.size 3 1 (.slice (some ⟨g, 0, none⟩) n c3) n (ints .i64 (done ++ [y] ++ cs.drop (k + 1)))) := fun y => by
        have := (hown.stored k (.int .i64 y)).1
        rwa [ints_set, row_set _ _ _ _ k hd] at this
      have hck := (hown.cellAt k (by omega)).trans (ints_row_at _ _ _ k hd)
      have hfk := hown.frozenAt k
      have HBL := Lib.hid (fun y : Int => hb.setCell (p := ⟨g, k, none⟩) hg1 (.int .i64 y))
      have HO := Lib.hid (show wr.ownsRow w.heap.size 3 1 (.slice (some ⟨g, 0, none⟩) n c3) n (ints .i64 (done ++ [x] ++ cs.drop (k + 1))) from by simpa using hown)
      have HF := Lib.hid hf
      have HD := Lib.hid (show ∀ y : Int, (done ++ [y]).length = k + 1 from fun y => by simp [hd])
      clear hf hown hd hr
      have hcases : (x = 3 ∧ st = 0) ∨ (x = 3 ∧ (st == 0) = false) ∨ (x == 3) = false := by
        by_cases h3 : x = 3
        · by_cases hs : st = 0
          · exact .inl ⟨h3, hs⟩
          · exact .inr (.inl ⟨h3, by simpa using hs⟩)
        · exact .inr (.inr (by simpa using h3))
      rcases hcases with ⟨rfl, rfl⟩ | ⟨rfl, hs⟩ | h3
      all_goals
        go_wp2_with (go_at_call 40; (with_reducible refine HC.out.mono ?_); rintro e w' ⟨rfl, rfl⟩)
        go_roundw
        case rel =>
          first
            | exact ⟨k + 1, done ++ [_], by omega, HD.out _, by go_num, by rw [HF.out, HSN.out]; clear HST HBL HD HO HC; simp_all [rule7L], HST.out _, HBL.out _⟩
            | exact ⟨k + 1, done ++ [_], by omega, HD.out _, by go_num, by rw [HF.out, HSN.out]; clear HST HBL HD HO HC; simp_all [rule7L], HO.out, hb⟩
        case measure => simp [intOf]; omega
    · obtain rfl : n = k := by omega
      go_wp2
      go_ret
      rw [List.drop_eq_nil_of_le (by rw [HL.out]; omega)] at hf hown
      refine ⟨_, rfl, ?_, hb⟩
      rw [hf]; simpa [rule7L] using hown

set_option maxRecDepth 100000 in
set_option maxHeartbeats 4000000 in
theorem rule3_any (A : Option Addr) (n c : Nat) (cs : List Int) (w : World) (hr : Rd w 1 A n (ints .i64 cs)) (hn : n ≤ 2097152) :
    Calls Try.prog 34 #[.slice A n c] w fun e w' => ∃ v, e = .returned v ∧ w'.ownsRow w.heap.size 3 1 v n (ints .i64 (rule3L cs)) ∧ Below w.heap.size w w' := by
  have HL := Lib.hid (show cs.length = n by simpa using hr.1)
  go_enter Try.func34, Try.ntmps34
  go_wp2_with (go_at_call 39; (with_reducible refine (copied_any _ _ _ cs _ hr hn).mono ?_); rintro e w3 ⟨v3, rfl, hown3, hb3⟩; obtain ⟨A3, c3, rfl, _, _⟩ := own_slice hown3)
  go_loopw [4] (fun i wr => ∃ (k : Nat) (done : List Int), k ≤ n ∧ done.length = k ∧ i = .int .i64 k ∧ rule3L cs = done ++ rule3L (cs.drop k) ∧
      wr.ownsRow w.heap.size 3 1 (.slice A3 n c3) n (ints .i64 (done ++ cs.drop k)) ∧ Below w.heap.size w wr)
    (fun i _ => n - (intOf i).toNat)
  case atStart => exact ⟨0, [], Nat.zero_le _, rfl, rfl, by simp, by simpa using hown3, hb3⟩
  case round =>
    clear hown3 hb3 hr
    obtain ⟨k, done, hk, hd, rfl, hf, hown, hb⟩ := hrel
    by_cases hlt : k < n
    · have hkc : k < cs.length := by rw [HL.out]; exact hlt
      obtain ⟨g, cap, hv, hg1, hg2⟩ := hown.form (by omega)
      injection hv with hA hnn hcc
      subst hA; subst hcc
      rw [List.drop_eq_getElem_cons hkc] at hf hown
      generalize cs[k] = x at *
      have HST : Hid (∀ y : Int, (wr.setCell ⟨g, k, none⟩ (.int .i64 y)).ownsRow w.heap.size 3 1 (.slice (some ⟨g, 0, none⟩) n c3) n (ints .i64 (done ++ [y] ++ cs.drop (k + 1)))) := fun y => by
        have := (hown.stored k (.int .i64 y)).1
        rwa [ints_set, row_set _ _ _ _ k hd] at this
      have hck := (hown.cellAt k (by omega)).trans (ints_row_at _ _ _ k hd)
      have hfk := hown.frozenAt k
      have HBL := Lib.hid (fun y : Int => hb.setCell (p := ⟨g, k, none⟩) hg1 (.int .i64 y))
      have HO := Lib.hid (show wr.ownsRow w.heap.size 3 1 (.slice (some ⟨g, 0, none⟩) n c3) n (ints .i64 (done ++ [x] ++ cs.drop (k + 1))) from by simpa using hown)
      have HF := Lib.hid hf
      have HD := Lib.hid (show ∀ y : Int, (done ++ [y]).length = k + 1 from fun y => by simp [hd])
      clear hf hown hd
      have hcases : x = 2 ∨ ((x == 2) = false) := by
        simp only [beq_eq_false_iff_ne, ne_eq]; omega
      rcases hcases with rfl | h2
      all_goals
        go_wp2
        go_roundw
        case rel =>
          first
            | exact ⟨k + 1, done ++ [_], by omega, HD.out _, by go_num, by rw [HF.out]; clear HST HBL HD HO; simp_all [rule3L], HST.out _, HBL.out _⟩
            | exact ⟨k + 1, done ++ [_], by omega, HD.out _, by go_num, by rw [HF.out]; clear HST HBL HD HO; simp_all [rule3L], HO.out, hb⟩
        case measure => simp [intOf]; omega
    · obtain rfl : n = k := by omega
      go_wp2
      go_ret
      rw [List.drop_eq_nil_of_le (by rw [HL.out]; omega)] at hf hown
      refine ⟨_, rfl, ?_, hb⟩
      rw [hf]; simpa [rule3L] using hown

set_option maxRecDepth 100000 in
set_option maxHeartbeats 4000000 in
theorem rule6_any (A : Option Addr) (n c : Nat) (cs : List Int) (w : World) (hr : Rd w 1 A n (ints .i64 cs)) (hn : n ≤ 2097152) :
    Calls Try.prog 31 #[.slice A n c] w fun e w' => ∃ v, e = .returned v ∧ w'.ownsRow w.heap.size 3 1 v n (ints .i64 (rule6L cs)) ∧ Below w.heap.size w w' := by
  have HL := Lib.hid (show cs.length = n by simpa using hr.1)
  go_enter Try.func31, Try.ntmps31
  go_wp2_with (go_at_call 39; (with_reducible refine (copied_any _ _ _ cs _ hr hn).mono ?_); rintro e w3 ⟨v3, rfl, hown3, hb3⟩; obtain ⟨A3, c3, rfl, _, _⟩ := own_slice hown3)
  go_loopw [4] (fun i wr => ∃ (k : Nat) (done : List Int), k ≤ n ∧ done.length = k ∧ i = .int .i64 k ∧ rule6L cs = done ++ rule6L (cs.drop k) ∧
      wr.ownsRow w.heap.size 3 1 (.slice A3 n c3) n (ints .i64 (done ++ cs.drop k)) ∧ Below w.heap.size w wr)
    (fun i _ => n - (intOf i).toNat)
  case atStart => exact ⟨0, [], Nat.zero_le _, rfl, rfl, by simp, by simpa using hown3, hb3⟩
  case round =>
    clear hown3 hb3 hr
    obtain ⟨k, done, hk, hd, rfl, hf, hown, hb⟩ := hrel
    by_cases hlt : k < n
    · have hkc : k < cs.length := by rw [HL.out]; exact hlt
      obtain ⟨g, cap, hv, hg1, hg2⟩ := hown.form (by omega)
      injection hv with hA hnn hcc
      subst hA; subst hcc
      rw [List.drop_eq_getElem_cons hkc] at hf hown
      generalize cs[k] = x at *
      have HST : Hid (∀ y : Int, (wr.setCell ⟨g, k, none⟩ (.int .i64 y)).ownsRow w.heap.size 3 1 (.slice (some ⟨g, 0, none⟩) n c3) n (ints .i64 (done ++ [y] ++ cs.drop (k + 1)))) := fun y => by
        have := (hown.stored k (.int .i64 y)).1
        rwa [ints_set, row_set _ _ _ _ k hd] at this
      have hck := (hown.cellAt k (by omega)).trans (ints_row_at _ _ _ k hd)
      have hfk := hown.frozenAt k
      have HBL := Lib.hid (fun y : Int => hb.setCell (p := ⟨g, k, none⟩) hg1 (.int .i64 y))
      have HO := Lib.hid (show wr.ownsRow w.heap.size 3 1 (.slice (some ⟨g, 0, none⟩) n c3) n (ints .i64 (done ++ [x] ++ cs.drop (k + 1))) from by simpa using hown)
      have HF := Lib.hid hf
      have HD := Lib.hid (show ∀ y : Int, (done ++ [y]).length = k + 1 from fun y => by simp [hd])
      clear hf hown hd
      have hcases : x = 4 ∨ x = 5 ∨ x = 7 ∨ ((x == 4) = false ∧ (x == 5) = false ∧ (x == 7) = false) := by
        simp only [beq_eq_false_iff_ne, ne_eq]; omega
      rcases hcases with rfl | rfl | rfl | ⟨h4, h5, h7⟩
      all_goals
        go_wp2
        go_roundw
        case rel =>
          first
            | exact ⟨k + 1, done ++ [_], by omega, HD.out _, by go_num, by rw [HF.out]; clear HST HBL HD HO; simp_all [rule6L], HST.out _, HBL.out _⟩
            | exact ⟨k + 1, done ++ [_], by omega, HD.out _, by go_num, by rw [HF.out]; clear HST HBL HD HO; simp_all [rule6L], HO.out, hb⟩
        case measure => simp [intOf]; omega
    · obtain rfl : n = k := by omega
      go_wp2
      go_ret
      rw [List.drop_eq_nil_of_le (by rw [HL.out]; omega)] at hf hown
      refine ⟨_, rfl, ?_, hb⟩
      rw [hf]; simpa [rule6L] using hown

end Go.Proofs.Ytmonkeencbhcmaa.wk
