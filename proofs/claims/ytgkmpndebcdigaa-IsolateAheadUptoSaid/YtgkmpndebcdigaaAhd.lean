/-
  Layer 9: the walk of the statement IsolateAhead.
-/
import Derived.Test.YtgkmpndebcdigaaPla
import Derived.Test.YtgkmpndebcdigaaBot
namespace Go.Proofs.Ytgkmpndebcdigaa
open Go.RowKit

def plain22 (c : Int) : Bool := !(c == 22)

theorem filter_take_snoc (p : Int → Bool) (l : List Int) (k : Nat) (h : k < l.length) : (l.take (k + 1)).filter p = (l.take k).filter p ++ (if p l[k] then [l[k]] else []) := by
  rw [take_succ_ l k h, List.filter_append]
  by_cases hp : p l[k] <;> simp [hp]

set_option maxRecDepth 100000 in
set_option maxHeartbeats 2000000 in
theorem ahead_law (A : Option Addr) (n c : Nat) (zs : List Int) (A' : Option Addr) (n' c' : Nat) (zs' : List Int) (w : World) (hr : Rd w 1 A n (ints .u8 zs)) (hz : ∀ z ∈ zs, 0 ≤ z ∧ z ≤ 255)
    (hr' : Rd w 1 A' n' (ints .u8 zs')) (hz' : ∀ z ∈ zs', 0 ≤ z ∧ z ≤ 255) (hn : n + n' ≤ 1048576) :
    Calls Try.prog 6 #[.slice A n c, .slice A' n' c'] w fun e w' => e = .returned (.bool true) ∧ Below w.heap.size w w' := by
  obtain ⟨i0, hi, hz0, hz1, hz2⟩ := info_parts info29
  go_enter Try.func6, Try.ntmps6
  go_wp2_with fail
  refine (awake_any _).mono ?_
  rintro e w1 ⟨rfl, hb1⟩
  go_wp2_with fail
  refine (classes_any _ _ _ zs _ (hr.same hb1) (by omega) hz).mono ?_
  rintro e w2 ⟨v2, rfl, hown2, hb2⟩
  have hl : (classes zs).length = n := by simpa [ints] using hown2.1
  have HL := Lib.hid hl
  clear hl
  generalize classes zs = cs at *
  obtain ⟨A2, c2, rfl, _, hr2⟩ := own_slice hown2
  have hB2 : Below w.heap.size w w2 := hb1.trans (hb2.mono hb1.size)
  have hrb := hr'.same hB2
  clear hr hr' hown2 hb1 hb2
  go_wp2_with (first
    | (at_builtin; refine wpList_append_rd rfl (.tmp 16) (.tmp 17) 24 rfl w2.heap.size w2 w2.heap.size 29 i0 (.int .u8 0) 1 1 Try.underlying24 hi hz0 hz1 hz2 rfl (by decide) _ _ _ rfl (World.ownsRow_nil _ _ _ _) _ _ _ _ rfl hr2 ints_one (Below.refl _ _) (Nat.le_refl _) (Nat.le_refl _) (Nat.le_refl _) (by omega) (by omega) ?_; intro v3 w3 hown3 hb3 _ _)
    | fail)
  refine (classes_any _ _ _ zs' _ (hrb.same hb3) (by omega) hz').mono ?_
  rintro e w4 ⟨v4, rfl, hown4, hb4⟩
  have hl' : (classes zs').length = n' := by simpa [ints] using hown4.1
  have HL' := Lib.hid hl'
  clear hl'
  generalize classes zs' = ms at *
  obtain ⟨A4, c4, rfl, _, hr4⟩ := own_slice hown4
  have hall : w4.ownsRow w2.heap.size 29 1 v3 n (ints .u8 cs) := by
    have := own_block hown3 fun g hg => hb4.block g (hown3.lt g hg).2
    simpa using this
  have hne : ∀ g, v3.ownBlock = some g → g < w3.heap.size := fun g hg => (hown3.lt g hg).2
  have hB4 : Below w2.heap.size w2 w4 := hb3.trans (hb4.mono hb3.size)
  clear hown3
  go_wp2
  go_loopw [6, 22] (fun v i wr => ∃ k : Nat, k ≤ n' ∧ i = .int .i64 k ∧ wr.ownsRow w2.heap.size 29 1 v (n + ((ms.take k).filter plain22).length) (ints .u8 (cs ++ (ms.take k).filter plain22)) ∧
      wr.ownsRow w3.heap.size 29 1 (.slice A4 n' c4) n' (ints .u8 ms) ∧ (∀ g, v.ownBlock = some g → g < w3.heap.size ∨ w4.heap.size ≤ g) ∧ Below w2.heap.size w2 wr ∧ w4.heap.size ≤ wr.heap.size)
    (fun _ i _ => n' - (intOf i).toNat)
  case atStart => exact ⟨0, Nat.zero_le _, rfl, by simpa using hall, hown4, fun g hg => .inl (hne g hg), hB4, Nat.le_refl _⟩
  case round =>
    clear hall hne hB4 hr4
    have hlt4 := fun g hg => (hown4.lt g hg).2
    clear hown4
    obtain ⟨k, hk, rfl, hall, hr4, hne, hb, hsz⟩ := hrel
    have hsz2 : w2.heap.size ≤ wr.heap.size := hb.size
    by_cases hlt : k < n'
    · have hkz : k < ms.length := by rw [HL'.out]; exact hlt
      obtain ⟨ad, rfl, hc⟩ := (Rd.of_own hr4).cell_ (ints_at (K := .u8) hkz)
      have HS := Lib.hid (filter_take_snoc plain22 ms k hkz)
      have hfl : ((ms.take k).filter plain22).length ≤ k := Nat.le_trans (List.length_filter_le _ _) (List.length_take_le _ _)
      generalize ms[k] = x at *
      generalize (ms.take k).filter plain22 = fl at *
      by_cases h22 : x = 22
      · have e : (ms.take (k + 1)).filter plain22 = fl := by rw [HS.out, h22]; simp [plain22]
        have HE := Lib.hid e
        clear e HS
        subst h22
        go_wp2
        go_roundw
        case rel => exact ⟨k + 1, by omega, by go_num, by rw [HE.out]; exact hall, hr4, hne, hb, hsz⟩
        case measure => simp [intOf]; omega
      · have e : (ms.take (k + 1)).filter plain22 = fl ++ [x] := by rw [HS.out, if_pos (by simp [plain22, h22])]
        have HE := Lib.hid e
        have b1 : (x != 22) = true := by simp [h22]
        have hne' : ∀ g, Value.ownBlock (.slice (some ad) n' c4) = some g → some g ≠ u6.ownBlock := fun g hg h => by
          rcases hne g h.symm with h1 | h1
          · have := (hr4.lt g hg).1; omega
          · have := hlt4 g hg; omega
        have HN := Lib.hid hne
        have HN' := Lib.hid hne'
        have H4 := Lib.hid hlt4
        clear e HS hne hne' hlt4
        go_wp2_with (at_builtin; refine wpList_append_one rfl (.tmp 28) (.tmp 30) 24 rfl w2.heap.size w2 w2.heap.size 29 i0 (.int .u8 0) 1 Try.underlying24 hi hz0 hz1 hz2 rfl _ _ _ rfl hall _ _ rfl _ rfl (by simp) hb hsz2 (Nat.le_refl _) hsz2 (by omega) (by omega) ?_; intro v5 w5 hall1 hb1 hg1 hat1)
        go_roundw
        case rel =>
          refine ⟨k + 1, by omega, by go_num, by rw [HE.out]; simpa [ints, Nat.add_assoc] using hall1, own_block hr4 (fun g hg => hg1.block g (hr4.lt g hg).2 (HN'.out g hg)), ?_, hb1, Nat.le_trans hsz hg1.size⟩
          intro g hg
          rcases hat1 with h | ⟨g', h, hle⟩
          · exact HN.out g (h.symm.trans hg)
          · rw [h] at hg
            injection hg with hg
            exact .inr (by omega)
        case measure => simp [intOf]; omega
    · obtain rfl : n' = k := by omega
      rw [List.take_of_length_le (by rw [HL'.out]; omega)] at hall
      have hfl : (ms.filter plain22).length ≤ n' := by rw [← HL'.out]; exact List.length_filter_le _ _
      have HP := Lib.hid (ahead_plain cs (ms.filter plain22) (fun c hc h => by
        have := (List.mem_filter.1 hc).2
        rw [h] at this
        exact absurd this (by decide)))
      have hla : (cs ++ ms.filter plain22).length = n + (ms.filter plain22).length := by rw [List.length_append, HL.out]
      rw [hla, HL.out] at HP
      clear hla
      generalize ms.filter plain22 = fl at *
      generalize fl.length = m at *
      obtain ⟨A6, c6, rfl, _, hr6⟩ := own_slice hall
      have hr3 := hr2.same hb
      clear hr2 hr4 hne hlt4 hall
      go_wp2_with fail
      refine (match_any _ _ _ cs _ hr3 (by omega)).mono ?_
      rintro e w5 ⟨v5, rfl, hown5, hb5⟩
      go_wp2_with fail
      refine (match_any _ _ _ (cs ++ fl) _ (hr6.same hb5) (by omega)).mono ?_
      rintro e w6 ⟨v6, rfl, hown6, hb6⟩
      obtain ⟨A7, c7, rfl, _, hm7⟩ := own_slice hown5
      obtain ⟨A8, c8, rfl, _, hm8⟩ := own_slice hown6
      have hm7' := hm7.same hb6
      have hB : Below w.heap.size w w6 := ((hB2.trans (hb.mono hB2.size)).trans (hb5.mono (Nat.le_trans hB2.size hb.size))).trans (hb6.mono (Nat.le_trans (Nat.le_trans hB2.size hb.size) hb5.size))
      clear hown5 hown6 hm7 hr3 hr6 hb hb5 hb6 hB2 hsz hsz2
      go_wp2
      go_loopw [51] (fun i wr => ∃ j : Nat, j ≤ n + m ∧ i = .int .i64 j ∧ Below w6.heap.size w6 wr)
        (fun i _ => n + m - (intOf i).toNat)
      case atStart => exact ⟨0, Nat.zero_le _, rfl, Below.refl _ _⟩
      case round =>
        obtain ⟨j, hjn, rfl, hb⟩ := hrel
        by_cases hlt : j < n + m
        · obtain ⟨ad8, rfl, hc8⟩ := (hm8.same hb).2 (by omega)
          rcases HP.out j hlt with ⟨hjn', he⟩ | ⟨hnj, he⟩
          · obtain ⟨ad7, rfl, hc7⟩ := (hm7'.same hb).2 (by omega)
            obtain ⟨x, hx⟩ : ∃ x, (matched cs)[j]? = some x := ⟨_, List.getElem?_eq_getElem (by rw [matched_length, HL.out]; exact hjn')⟩
            have e7 := hc7 j (.int .i64 x) (by simp [ints, hx])
            have e8 := hc8 j (.int .i64 x) (by simp [ints, he, hx])
            have hd : decide (n ≤ j) = false := by simp; omega
            clear hc7 hc8 he hx
            go_wp2
            go_quiet (fail)
            go_wp2
            go_roundw
            case rel => exact ⟨j + 1, by omega, by go_num, by first | exact hb | exact hb.drew | exact drawn hb _⟩
            case measure => simp [intOf]; omega
          · have e8 := hc8 j (.int .i64 (-1)) (by simp [ints, he])
            have hd : decide (j < n) = false := by simp; omega
            clear hc8 he
            go_wp2
            go_quiet (fail)
            go_wp2
            go_roundw
            case rel => exact ⟨j + 1, by omega, by go_num, by first | exact hb | exact hb.drew | exact drawn hb _⟩
            case measure => simp [intOf]; omega
        · go_wp2
          go_ret
          exact ⟨rfl, hB.trans (hb.mono hB.size)⟩
end Go.Proofs.Ytgkmpndebcdigaa
