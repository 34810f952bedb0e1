/-
  Layer 22: the contracts of a ruler's methods and of Widths over the program; the document's examples.
-/
import Derived.Test.YtmonkeencbhcmaaMea
namespace Go.Proofs.Ytmonkeencbhcmaa.me
open Go.RowKit lb

/-- boustrophedonlaw22.Widths -/
def widths (zs : List Int) : List Int := zs.map (· % 3)
theorem widths_bd (zs : List Int) : ∀ z ∈ widths zs, 0 ≤ z ∧ z ≤ 2 := by
  intro z hz
  simp only [widths, List.mem_map] at hz
  obtain ⟨x, _, rfl⟩ := hz
  omega

set_option maxHeartbeats 400000 in
theorem widths_any (A : Option Addr) (n c : Nat) (zs : List Int) (w : World) (hr : Rd w 1 A n (ints .u8 zs)) (hn : n ≤ 1048576) (hz : ∀ z ∈ zs, 0 ≤ z ∧ z ≤ 255) :
    Calls Try.prog 11 #[.slice A n c] w fun e w' => ∃ v, e = .returned v ∧ w'.ownsRow w.heap.size 3 1 v n (ints .i64 (widths zs)) ∧ Below w.heap.size w w' := by
  obtain ⟨i0, hi, hz0, hz1, hz2⟩ := info_parts infoI
  have hl : zs.length = n := by simpa using hr.1
  have HL := Lib.hid hl
  clear hl
  go_enter Try.func11, Try.ntmps11
  go_wp2
  go_loopw [3, 4] (fun v i wr => ∃ k : Nat, k ≤ n ∧ i = .int .i64 k ∧ wr.ownsRow w.heap.size 3 1 v k (ints .i64 (widths (zs.take k))) ∧ Below w.heap.size w wr)
    (fun _ i _ => n - (intOf i).toNat)
  case atStart => exact ⟨0, Nat.zero_le _, rfl, World.ownsRow_nil _ _ _ _, Below.refl _ _⟩
  case round =>
    obtain ⟨k, hk, rfl, hown, hb⟩ := hrel
    by_cases hlt : k < n
    · have hkz : k < zs.length := by rw [HL.out]; exact hlt
      obtain ⟨ad, rfl, hc⟩ := (hr.same hb).cell_ (ints_at (K := .u8) hkz)
      have hzk := hz zs[k] (List.getElem_mem hkz)
      have HT := Lib.hid (take_succ_ zs k hkz)
      clear hr
      generalize zs[k] = x at *
      go_wp2_with (first | (at_builtin; refine wpList_append_one rfl (.tmp 11) (.tmp 18) 24 rfl w.heap.size w w.heap.size 3 i0 (.int .i64 0) 8 Try.underlying24 hi hz0 hz1 hz2 rfl _ _ _ rfl hown _ _ rfl _ rfl (by simp) hb hb.size (Nat.le_refl _) hb.size (by omega) (by omega) ?_; intro v' w1 hown1 hb1 _ _))
      go_roundw
      case rel => exact ⟨k + 1, by omega, by go_num, by rw [HT.out]; simpa [widths, ints] using hown1, hb1⟩
      case measure => simp [intOf]; omega
    · obtain rfl : n = k := by omega
      clear hr
      go_wp2
      go_ret
      refine ⟨_, rfl, ?_, hb⟩
      rw [List.take_of_length_le (by rw [HL.out]; omega)] at hown
      exact hown

/-- (*Ruler).Count -/
theorem count_any (w : World) (v : Value) (n : Nat) (ws cs : List Int) (h : Rul w v n ws cs) :
    Calls Try.prog 14 #[v] w fun e w' => e = .returned (.int .i64 (n : Int)) ∧ w = w' := by
  obtain ⟨b, gs, gd, gz, rfl, h0, h1, h2, hs, hd, hz⟩ := h.ex
  clear h hs hd hz
  go_enter Try.func14, Try.ntmps14
  go_wp2
  go_ret
  exact ⟨rfl, rfl⟩

/-- may one ask from a place to another one? -/
def mayB (n : Nat) (x y : Int) : Bool := decide (0 ≤ x ∧ x ≤ y ∧ y ≤ n)
theorem may_any (w : World) (v : Value) (n : Nat) (ws cs : List Int) (h : Rul w v n ws cs) (x y : Int) (hn : n ≤ 4194304) :
    Calls Try.prog 26 #[v, .int .i64 x, .int .i64 y] w fun e w' => e = .returned (.bool (mayB n x y)) ∧ w = w' := by
  obtain ⟨b, gs, gd, gz, rfl, h0, h1, h2, hs, hd, hz⟩ := h.ex
  clear h hs hd hz
  go_enter Try.func26, Try.ntmps26
  go_wp2
  all_goals go_ret
  all_goals (refine ⟨ret_bool ?_, rfl⟩; unfold mayB; rw [Bool.eq_iff_iff]; simp; try omega)

/-- what (*Ruler).Cells answers -/
def cellsOf (ws : List Int) (n : Nat) (x y : Int) : Int := if mayB n x y = true then sumTo ws y.toNat - sumTo ws x.toNat else 0

set_option maxHeartbeats 400000 in
theorem cells_any (w : World) (v : Value) (n : Nat) (ws cs : List Int) (h : Rul w v n ws cs) (x y : Int) (hn : n ≤ 4194304) (hw : ∀ z ∈ ws, 0 ≤ z ∧ z ≤ 2) :
    Calls Try.prog 15 #[v, .int .i64 x, .int .i64 y] w fun e w' => e = .returned (.int .i64 (cellsOf ws n x y)) ∧ ∃ q, w' = w.drewN q := by
  by_cases hm : mayB n x y = true
  · have hm' := hm
    simp only [mayB, decide_eq_true_eq] at hm'
    obtain ⟨i, rfl⟩ : ∃ i : Nat, x = i := ⟨x.toNat, by omega⟩
    obtain ⟨j, rfl⟩ : ∃ j : Nat, y = j := ⟨y.toNat, by omega⟩
    have HE : Hid (cellsOf ws n i j = sumTo ws j - sumTo ws i) := by
      show _ = _
      rw [cellsOf, if_pos hm]; simp
    have hM := fun W h => (may_any W v n ws cs h i j hn).mono (fun e w' (hh : e = .returned (.bool (mayB n i j)) ∧ W = w') => (show e = .returned (.bool true) ∧ W = w' from ⟨by rw [hh.1, hm], hh.2⟩))
    have HM := Lib.hid hM
    have H := Lib.hid h
    clear hM hm
    obtain ⟨b, gs, gd, gz, rfl, h0, h1, h2, hs, hd, hz⟩ := h.ex
    have c1 := hs i (by omega)
    have c2 := hs j (by omega)
    have l1 := sumTo_bd ws hw i
    have l2 := sumTo_bd ws hw j
    have b1 : (i : Int) < (n : Int) + 1 := by omega
    have b2 : (j : Int) < (n : Int) + 1 := by omega
    clear hs hd hz h1 h2 h hw
    go_enter Try.func15, Try.ntmps15
    go_wp2_with (go_at_call 26; refine (HM.out _ H.out).mono ?_; rintro e w' ⟨rfl, rfl⟩)
    go_quiet (fail)
    go_wp2
    go_ret
    exact ⟨ret_int HE.out.symm, _, rfl⟩
  · have hm' : mayB n x y = false := by simpa using hm
    have HE : Hid (cellsOf ws n x y = 0) := if_neg hm
    have hM := fun W h => (may_any W v n ws cs h x y hn).mono (fun e w' (hh : e = .returned (.bool (mayB n x y)) ∧ W = w') => (show e = .returned (.bool false) ∧ W = w' from ⟨by rw [hh.1, hm'], hh.2⟩))
    have HM := Lib.hid hM
    have H := Lib.hid h
    clear hM hm hm' h hw
    go_enter Try.func15, Try.ntmps15
    go_wp2_with (go_at_call 26; refine (HM.out _ H.out).mono ?_; rintro e w' ⟨rfl, rfl⟩)
    go_ret
    exact ⟨ret_int HE.out.symm, 0, rfl⟩

/-- what (*Ruler).Shown answers -/
def shownOf (ws cs : List Int) (n : Nat) (x y : Int) : Int := if mayB n x y = true then cellsOf ws n x (max x (solidTo cs y.toNat : Int)) else 0

set_option maxHeartbeats 400000 in
theorem shown_any (w : World) (v : Value) (n : Nat) (ws cs : List Int) (h : Rul w v n ws cs) (x y : Int) (hn : n ≤ 4194304) (hw : ∀ z ∈ ws, 0 ≤ z ∧ z ≤ 2) :
    Calls Try.prog 16 #[v, .int .i64 x, .int .i64 y] w fun e w' => e = .returned (.int .i64 (shownOf ws cs n x y)) ∧ ∃ q, w' = w.drewN q := by
  by_cases hm : mayB n x y = true
  · have hm' := hm
    simp only [mayB, decide_eq_true_eq] at hm'
    obtain ⟨i, rfl⟩ : ∃ i : Nat, x = i := ⟨x.toNat, by omega⟩
    obtain ⟨j, rfl⟩ : ∃ j : Nat, y = j := ⟨y.toNat, by omega⟩
    have HE : Hid (shownOf ws cs n i j = cellsOf ws n i (max (i : Int) (solidTo cs j : Int))) := by
      show _ = _
      rw [shownOf, if_pos hm]; simp
    have hM := fun W h => (may_any W v n ws cs h i j hn).mono (fun e w' (hh : e = .returned (.bool (mayB n i j)) ∧ W = w') => (show e = .returned (.bool true) ∧ W = w' from ⟨by rw [hh.1, hm], hh.2⟩))
    have HM := Lib.hid hM
    have H := Lib.hid h
    clear hM hm
    obtain ⟨b, gs, gd, gz, rfl, h0, h1, h2, hs, hd, hz⟩ := h.ex
    have c2 := hd j (by omega)
    have l2 := solidTo_le cs j
    have b2 : (j : Int) < (n : Int) + 1 := by omega
    have HC := Lib.hid (fun z => cells_any w _ n ws cs H.out i z hn hw)
    clear hs hd hz h0 h2 h hw
    generalize solidTo cs j = s at *
    obtain ⟨mx, hmx⟩ : ∃ mx, max (i : Int) (s : Int) = mx := ⟨_, rfl⟩
    rw [hmx] at HE
    have hmx' : (mx = i ∧ s ≤ i) ∨ (mx = s ∧ i < s) := by omega
    clear hmx
    rcases hmx' with ⟨rfl, hsi⟩ | ⟨rfl, hsi⟩
    all_goals
      go_enter Try.func16, Try.ntmps16
      go_wp2_with (first
        | (go_at_call 26; refine (HM.out _ H.out).mono ?_; rintro e w' ⟨rfl, rfl⟩)
        | (go_at_call 15; refine (HC.out _).mono ?_; rintro e w' ⟨rfl, q, rfl⟩))
      go_ret
      exact ⟨ret_int HE.out.symm, q, rfl⟩
  · have hm' : mayB n x y = false := by simpa using hm
    have HE : Hid (shownOf ws cs n x y = 0) := if_neg hm
    have hM := fun W h => (may_any W v n ws cs h x y hn).mono (fun e w' (hh : e = .returned (.bool (mayB n x y)) ∧ W = w') => (show e = .returned (.bool false) ∧ W = w' from ⟨by rw [hh.1, hm'], hh.2⟩))
    have HM := Lib.hid hM
    have H := Lib.hid h
    clear hM hm hm' h hw
    go_enter Try.func16, Try.ntmps16
    go_wp2_with (go_at_call 26; refine (HM.out _ H.out).mono ?_; rintro e w' ⟨rfl, rfl⟩)
    go_ret
    exact ⟨ret_int HE.out.symm, 0, rfl⟩

/-- what (*Ruler).Whole answers -/
def wholeOf (ws : List Int) (n : Nat) (x : Int) : Bool := decide (x = n) || (decide (0 ≤ x ∧ x < n) && !(ws.getD x.toNat 0 == 0))

theorem whole_any (w : World) (v : Value) (n : Nat) (ws cs : List Int) (h : Rul w v n ws cs) (x : Int) (hn : n ≤ 4194304) :
    Calls Try.prog 17 #[v, .int .i64 x] w fun e w' => e = .returned (.bool (wholeOf ws n x)) ∧ w = w' := by
  obtain ⟨b, gs, gd, gz, rfl, h0, h1, h2, hs, hd, hz⟩ := h.ex
  clear h hs hd h0 h1
  by_cases hx : 0 ≤ x ∧ x < n
  · obtain ⟨i, rfl⟩ : ∃ i : Nat, x = i := ⟨x.toNat, by omega⟩
    have hi : i < n := by omega
    have c := hz i hi
    have HE : Hid (wholeOf ws n i = !(ws.getD i 0 == 0)) := by
      show _ = _
      have h1 : ¬ ((i : Int) = (n : Int)) := by omega
      have h2 : (0 : Int) ≤ (i : Int) ∧ (i : Int) < (n : Int) := by omega
      rw [wholeOf]; simp [hi]; omega
    have n1 : (i == n) = false := by simp; omega
    have n2 : ((i : Int) == (n : Int)) = false := by simp; omega
    clear hz hx
    generalize (ws.getD i 0 == 0) = t at *
    go_enter Try.func17, Try.ntmps17
    go_wp2
    all_goals go_ret
    all_goals exact ⟨ret_bool (by first | exact HE.out.symm | (exfalso; omega)), rfl⟩
  · have HE : Hid (wholeOf ws n x = decide (x = n)) := by
      show _ = _
      rw [wholeOf]; simp [hx]
    clear hz
    have hx' : x < 0 ∨ (n : Int) ≤ x := by omega
    clear hx
    go_enter Try.func17, Try.ntmps17
    go_wp2
    all_goals go_ret
    all_goals exact ⟨ret_bool (by rw [HE.out]; first | rfl | (simp_all; done) | (simp; omega) | omega), rfl⟩

end Go.Proofs.Ytmonkeencbhcmaa.me
