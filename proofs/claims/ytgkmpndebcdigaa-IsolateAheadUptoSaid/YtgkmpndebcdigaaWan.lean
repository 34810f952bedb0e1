/-
  Layer 9: the walk of the statement IsolateMatches; what is left of it is the plain law 'want = matched'.
-/
import Derived.Test.YtgkmpndebcdigaaAwk
namespace Go.Proofs.Ytgkmpndebcdigaa
open Go.RowKit

/-- what the statement's second loop writes -/
def wantTo (cs : List Int) : Nat → List Int
  | 0 => List.replicate cs.length (-1)
  | k + 1 =>
    let p := closesL (cs.drop k) 0 k
    if iso (cs.getD k 0) && decide (0 ≤ p) then ((wantTo cs k).set k p).set p.toNat k else wantTo cs k

theorem wantTo_length (cs : List Int) (k : Nat) : (wantTo cs k).length = cs.length := by
  induction k with
  | zero => simp [wantTo]
  | succ k ih => simp only [wantTo]; split <;> simp [ih]

theorem closesL_bd (l : List Int) (n : Int) (k : Nat) : closesL l n k = -1 ∨ ∃ p : Nat, closesL l n k = p ∧ k ≤ p ∧ p < k + l.length := by
  induction l generalizing n k with
  | nil => exact .inl rfl
  | cons c r ih =>
    rw [closesL]
    generalize (if c = 22 then (if iso c = true then n + 1 else n) - 1 else if iso c = true then n + 1 else n) = m
    by_cases h : m = 0
    · rw [if_pos h]; exact .inr ⟨k, rfl, by omega, by simp⟩
    · rw [if_neg h]
      rcases ih m (k + 1) with h1 | ⟨p, h1, h2, h3⟩
      · exact .inl h1
      · exact .inr ⟨p, h1, by omega, by simp; omega⟩

set_option maxHeartbeats 2000000 in
theorem matches_walk (A : Option Addr) (n c : Nat) (zs : List Int) (w : World) (hr : Rd w 1 A n (ints .u8 zs)) (hn : n ≤ 1048576) (hz : ∀ z ∈ zs, 0 ≤ z ∧ z ≤ 255)
    (hplain : Hid (wantTo (classes zs) n = matched (classes zs))) :
    Calls Try.prog 3 #[.slice A n c] w fun e w' => e = .returned (.bool true) ∧ Below w.heap.size w w' := by
  obtain ⟨i0, hi, hz0, hz1, hz2⟩ := info_parts info3
  have hmk := fun W => make_one (P := Try.prog) 26 3 i0 (.int .i64 0) 8 Try.underlying26 hi hz0 hz1 hz2 n (by omega) (by omega) W
  go_enter Try.func3, Try.ntmps3
  go_wp2_with fail
  refine (awake_any _).mono ?_
  rintro e w1 ⟨rfl, hb1⟩
  go_wp2_with fail
  refine (classes_any _ _ _ zs _ (hr.same hb1) hn hz).mono ?_
  rintro e w2 ⟨v2, rfl, hown2, hb2⟩
  have hl : (classes zs).length = n := by simpa [ints] using hown2.1
  have HL := Lib.hid hl
  clear hl
  generalize classes zs = cs at *
  obtain ⟨A2, c2, rfl, _, hr2⟩ := own_slice hown2
  clear hr hown2
  go_wp2_with fail
  refine (match_any _ _ _ cs _ hr2 hn).mono ?_
  rintro e w3 ⟨v3, rfl, hown3, hb3⟩
  have hr3 := hr2.same hb3
  have hB : Below w.heap.size w w3 := (hb1.trans (hb2.mono hb1.size)).trans (hb3.mono (Nat.le_trans hb1.size hb2.size))
  obtain ⟨A3, c3, rfl, _, hm3⟩ := own_slice hown3
  clear hr2 hown3 hb1 hb2 hb3
  go_wp2
  clear hmk
  go_loopw [6] (fun i wr => ∃ k : Nat, k ≤ n ∧ i = .int .i64 k ∧ wr.ownsRow w3.heap.size 3 1 (.slice (some ⟨w3.heap.size, 0, none⟩) n n) n (ints .i64 (List.replicate k (-1) ++ List.replicate (n - k) 0)) ∧
      Below w3.heap.size w3 wr)
    (fun i _ => n - (intOf i).toNat)
  case atStart => exact ⟨0, Nat.zero_le _, rfl, by simpa using made_own w3 3 .i64 n (by omega) (Nat.le_refl _), (Below.refl _ _).alloc (Nat.le_refl _) _⟩
  case round =>
    obtain ⟨k, hk, rfl, hout, hb⟩ := hrel
    by_cases hlt : k < n
    · obtain ⟨u0, hco⟩ : ∃ u, wr.cell? ⟨w3.heap.size, k, none⟩ = some u := ⟨_, (hout.cellAt k (by omega)).trans (ints_at (by simp; omega))⟩
      have hfo := hout.frozenAt k
      have ho1 := (hout.stored k (.int .i64 (-1))).1
      rw [ints_set] at ho1
      have hb1 := hb.setCell (p := ⟨w3.heap.size, k, none⟩) (Nat.le_refl _) (.int .i64 (-1))
      go_wp2
      go_roundw
      case rel =>
        refine ⟨k + 1, by omega, by go_num, ?_, hb1⟩
        rw [← fill_set _ _ _ _ hlt]
        exact ho1
      case measure => simp [intOf]; omega
    · obtain rfl : n = k := by omega
      simp only [Nat.sub_self, List.replicate_zero, List.append_nil] at hout
      go_wp2
      have hB1 := hb
      clear hb hk
      go_loopw [7, 8] (fun i _ wr => ∃ j : Nat, j ≤ n ∧ i = .int .i64 j ∧ wr.ownsRow w3.heap.size 3 1 (.slice (some ⟨w3.heap.size, 0, none⟩) n n) n (ints .i64 (wantTo cs j)) ∧
          Below w3.heap.size w3 wr)
        (fun i _ _ => n - (intOf i).toNat)
      case atStart => exact ⟨0, Nat.zero_le _, rfl, by rw [wantTo, HL.out]; exact hout, hB1⟩
      case round =>
        clear hout hB1
        obtain ⟨j, hj, rfl, hout, hb⟩ := hrel
        by_cases hlt : j < n
        · have hjz : j < cs.length := by rw [HL.out]; exact hlt
          obtain ⟨ad, rfl, hc⟩ := (hr3.same hb).cell_ (ints_at (K := .u8) hjz)
          have hwl := wantTo_length cs j
          have hbd := closesL_bd (cs.drop j) 0 j
          rw [List.length_drop, HL.out] at hbd
          rw [HL.out] at hwl
          have HS : Hid (wantTo cs (j + 1) = if iso cs[j] && decide (0 ≤ closesL (cs.drop j) 0 j) then ((wantTo cs j).set j (closesL (cs.drop j) 0 j)).set (closesL (cs.drop j) 0 j).toNat j else wantTo cs j) := by
            show _ = _
            rw [wantTo, List.getD_eq_getElem?_getD, List.getElem?_eq_getElem hjz]; rfl
          have HC := Lib.hid (fun W (hW : Rd W 1 (some ad) n (ints .u8 cs)) => closes_any (some ad) n c2 cs j W hW hn (by omega))
          have hr4 := hr3.same hb
          clear hm3
          generalize cs[j] = x at *
          generalize wantTo cs j = wt at *
          generalize closesL (cs.drop j) 0 j = q at *
          by_cases hix : iso x = true
          · rcases hbd with rfl | ⟨p, rfl, hp1, hp2⟩
            · go_wp2_with (first | (go_at_call 17; refine (isolate_any _ _).mono ?_; rintro e w' ⟨rfl, rfl⟩) | (go_at_call 18; refine (HC.out _ hr4).mono ?_; rintro e w' ⟨rfl, rfl⟩))
              go_roundw
              case rel => exact ⟨j + 1, by omega, by go_num, by rw [HS.out]; simpa using hout, hb⟩
              case measure => simp [intOf]; omega
            · obtain ⟨u0, hco⟩ : ∃ u, wr.cell? ⟨w3.heap.size, j, none⟩ = some u := ⟨_, (hout.cellAt j (by omega)).trans (ints_at (by omega))⟩
              have hfo := hout.frozenAt j
              obtain ⟨ho1, hg1⟩ := (hout.stored j (.int .i64 (p : Int)))
              rw [ints_set] at ho1
              obtain ⟨u1, hco1⟩ : ∃ u, (wr.setCell ⟨w3.heap.size, j, none⟩ (.int .i64 (p : Int))).cell? ⟨w3.heap.size, p, none⟩ = some u := ⟨_, (ho1.cellAt p (by omega)).trans (ints_at (by simp; omega))⟩
              have hfo1 := ho1.frozenAt p
              have ho2 := (ho1.stored p (.int .i64 (j : Int))).1
              rw [ints_set] at ho2
              go_wp2_with (first | (go_at_call 17; refine (isolate_any _ _).mono ?_; rintro e w' ⟨rfl, rfl⟩) | (go_at_call 18; refine (HC.out _ hr4).mono ?_; rintro e w' ⟨rfl, rfl⟩))
              go_roundw
              case rel => exact ⟨j + 1, by omega, by go_num, by rw [HS.out]; simpa [hix] using ho2, (hb.setCell (Nat.le_refl _) _).setCell (Nat.le_refl _) _⟩
              case measure => simp [intOf]; omega
          · go_wp2_with (first | (go_at_call 17; refine (isolate_any _ _).mono ?_; rintro e w' ⟨rfl, rfl⟩))
            go_roundw
            case rel => exact ⟨j + 1, by omega, by go_num, by rw [HS.out]; simpa [hix] using hout, hb⟩
            case measure => simp [intOf]; omega
        · obtain rfl : n = j := by omega
          rw [hplain.out] at hout
          go_wp2
          have hB1 := hb
          clear hb hj
          go_loopw [9] (fun i wr => ∃ j : Nat, j ≤ n ∧ i = .int .i64 j ∧ wr.ownsRow w3.heap.size 3 1 (.slice (some ⟨w3.heap.size, 0, none⟩) n n) n (ints .i64 (matched cs)) ∧
              Below w3.heap.size w3 wr)
            (fun i _ => n - (intOf i).toNat)
          case atStart => exact ⟨0, Nat.zero_le _, rfl, hout, hB1⟩
          case round =>
            clear hout hB1
            obtain ⟨j, hj, rfl, hout, hb⟩ := hrel
            by_cases hlt : j < n
            · have hmz : j < (matched cs).length := by have := hm3.1; simp [ints] at this; omega
              obtain ⟨ad, rfl, hc⟩ := (hm3.same hb).cell_ (ints_at (K := .i64) hmz)
              have hco := (hout.cellAt j (by omega)).trans (ints_at hmz)
              clear hm3
              generalize (matched cs)[j] = x at *
              go_wp2
              go_quiet (fail)
              go_wp2
              go_roundw
              case rel => exact ⟨j + 1, by omega, by go_num, hout, by first | exact hb | exact hb.drew | exact below_drewN hb _⟩
              case measure => simp [intOf]; omega
            · go_wp2
              go_ret
              exact ⟨rfl, hB.trans (hb.mono hB.size)⟩
end Go.Proofs.Ytgkmpndebcdigaa
