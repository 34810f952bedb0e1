/-
  Layer 14: the walk of the statement WeakTwice.
-/
import Derived.Test.YtmonkeencbhcmaaWkd
namespace Go.Proofs.Ytmonkeencbhcmaa.wk
open Go.RowKit

/-- the classes that the statement keeps -/
def keepB (c : Int) : Bool := !(c == 6) && !(c == 3)
def kept (l : List Int) : List Int := l.filter keepB
theorem kept_noNum (l : List Int) : noNum (kept l) := by
  intro c hc
  simp only [kept, List.mem_filter, keepB, Bool.and_eq_true, Bool.not_eq_true', beq_eq_false_iff_ne] at hc
  omega
theorem kept_yes (l : List Int) (k : Nat) (h : k < l.length) (hk : keepB l[k] = true) : kept (l.take (k + 1)) = kept (l.take k) ++ [l[k]] := by
  rw [take_succ_ l k h, kept, kept, List.filter_append]; simp [hk]
theorem kept_no (l : List Int) (k : Nat) (h : k < l.length) (hk : keepB l[k] = false) : kept (l.take (k + 1)) = kept (l.take k) := by
  rw [take_succ_ l k h, kept, kept, List.filter_append]; simp [hk]
theorem kept_len (l : List Int) : (kept l).length ≤ l.length := List.length_filter_le _ _
theorem weak_bd (cs : List Int) (sos : Int) (h : ∀ c ∈ cs, 0 ≤ c ∧ c ≤ 22) (hs : sos = 0 ∨ sos = 1) : ∀ c ∈ weakL cs sos, 0 ≤ c ∧ c ≤ 255 := by
  have h1 : ∀ (l : List Int) (ah st : Int), (∀ c ∈ l, 0 ≤ c ∧ c ≤ 22) → 0 ≤ ah ∧ ah ≤ 22 → ∀ c ∈ firstL ah st l, 0 ≤ c ∧ c ≤ 22 := by
    intro l
    induction l with
    | nil => intro _ _ _ _ c hc; simp [firstL] at hc
    | cons x r ih =>
      intro ah st hl ha c hc
      simp only [firstL] at hc
      have hx := hl x (by simp)
      have hr := fun ah st => ih ah st (fun c hc => hl c (by simp [hc]))
      have he : ∃ c1, (if x = 8 then (if (isoC ah || ah == 22) = true then (13 : Int) else ah) else x) = c1 ∧ 0 ≤ c1 ∧ c1 ≤ 22 := by
        refine ⟨_, rfl, ?_⟩
        split
        · split <;> omega
        · exact hx
      obtain ⟨c1, e, hc1⟩ := he
      rw [e] at hc
      split at hc
      · rcases List.mem_cons.1 hc with h | h
        · rw [h]; split <;> omega
        · exact hr _ _ hc1 c h
      · split at hc
        · rcases List.mem_cons.1 hc with h | h
          · omega
          · exact hr _ _ (by decide) c h
        · rcases List.mem_cons.1 hc with h | h
          · omega
          · exact hr _ _ hc1 c h
  have h2 : ∀ (R : Int → Int → Prop) (a b : List Int), Pw R a b → (∀ x y, R x y → 0 ≤ x ∧ x ≤ 22 → 0 ≤ y ∧ y ≤ 22) → (∀ c ∈ a, 0 ≤ c ∧ c ≤ 22) → ∀ c ∈ b, 0 ≤ c ∧ c ≤ 22 := by
    intro R a b h hR
    induction h with
    | nil => intro h; exact h
    | cons hr _ ih =>
      intro h c hc
      rcases List.mem_cons.1 hc with h' | h'
      · rw [h']; exact hR _ _ hr (h _ (by simp))
      · exact ih (fun c hc => h c (by simp [hc])) c h'
  have g1 := h1 cs sos sos h (by omega)
  have g2 := h2 _ _ _ (numW_pw (firstL sos sos cs)) (fun x y hr hx => by omega) g1
  have g3 := h2 _ _ _ (et_pw (num1W (firstL sos sos cs)) (-1)) (fun x y hr hx => by omega) g2
  have g4 := h2 _ _ _ (map6_pw (etL (-1) (num1W (firstL sos sos cs)))) (fun x y hr hx => by omega) g3
  have g5 := h2 _ _ _ (last_pw (map6 (etL (-1) (num1W (firstL sos sos cs)))) sos) (fun x y hr hx => by omega) g4
  intro c hc
  have := g5 c hc
  omega

set_option maxRecDepth 100000 in
set_option maxHeartbeats 4000000 in
theorem twice_law (A : Option Addr) (n c : Nat) (zs : List Int) (b : Bool) (w : World)
    (hr : Rd w 1 A n (ints .u8 zs)) (hz : ∀ z ∈ zs, 0 ≤ z ∧ z ≤ 255) (hn : n ≤ 1048576) :
    Calls Try.prog 8 #[.slice A n c, .bool b] w fun e w' => e = .returned (.bool true) ∧ Below w.heap.size w w' := by
  obtain ⟨i0, hi, hz0, hz1, hz2⟩ := info_parts infoC
  go_enter Try.func8, Try.ntmps8
  go_wp2_with fail
  refine (awake14_any _).mono ?_
  rintro e w1 ⟨rfl, hb1⟩
  go_wp2_with fail
  refine (classes_any _ _ _ zs _ (hr.same hb1) (by omega) hz).mono ?_
  rintro e w2 ⟨v2, rfl, hown2, hb2⟩
  have hB2 := hb1.trans (hb2.mono hb1.size)
  obtain ⟨A2, c2, rfl, _, hl2⟩ := own_slice hown2
  have HB := Lib.hid (classes_bd zs)
  clear hown2 hb1 hb2 hr hz
  generalize classes zs = cs at *
  have HL := Lib.hid (show cs.length = n by simpa using hl2.1)
  go_wp2
  go_loopw [5, 14] (fun v i wr => ∃ k : Nat, k ≤ n ∧ i = .int .i64 k ∧ wr.ownsRow w2.heap.size 39 1 v (kept (cs.take k)).length (ints .u8 (kept (cs.take k))) ∧ Below w2.heap.size w2 wr)
    (fun _ i _ => n - (intOf i).toNat)
  case atStart => exact ⟨0, Nat.zero_le _, rfl, World.ownsRow_nil _ _ _ _, Below.refl _ _⟩
  case round =>
    obtain ⟨k, hk, rfl, hown, hb⟩ := hrel
    by_cases hlt : k < n
    · have hkz : k < cs.length := by rw [HL.out]; exact hlt
      obtain ⟨ad, rfl, hc⟩ := (hl2.same hb).cell_ (ints_at (K := .u8) hkz)
      have hkl : (kept (cs.take k)).length ≤ 1048576 := by have := kept_len (cs.take k); simp at this; omega
      have hyn : (keepB cs[k] = true ∧ ((cs[k] != 6) = true ∧ (cs[k] != 3) = true)) ∨ (keepB cs[k] = false ∧ cs[k] = 6) ∨ (keepB cs[k] = false ∧ cs[k] = 3) := by
        unfold keepB
        generalize cs[k] = x
        by_cases h6 : x = 6
        · subst h6; simp
        · by_cases h3 : x = 3
          · subst h3; simp
          · simp [h6, h3]
      have HY := Lib.hid (kept_yes cs k hkz)
      have HN := Lib.hid (kept_no cs k hkz)
      clear hl2
      generalize cs[k] = x at *
      rcases hyn with ⟨hb0, h6, h3⟩ | ⟨hb0, rfl⟩ | ⟨hb0, rfl⟩
      · have HT := Lib.hid (HY.out hb0)
        clear hb0 HY HN
        go_wp2_with (first | (at_builtin; refine wpList_append_one rfl (.tmp 24) (.tmp 26) 37 rfl w2.heap.size w2 w2.heap.size 39 i0 (.int .u8 0) 1 Try.underlying37 hi hz0 hz1 hz2 rfl _ _ _ rfl hown _ _ rfl _ rfl (by simp) hb hb.size (Nat.le_refl _) hb.size (by omega) (by omega) ?_; intro v' w1 hown1 hb1 _ _))
        go_roundw
        case rel => exact ⟨k + 1, by omega, by go_num, by rw [HT.out, List.length_append]; simpa [ints] using hown1, hb1⟩
        case measure => simp [intOf]; omega
      · have HT := Lib.hid (HN.out hb0)
        have HO := Lib.hid hown
        clear hb0 HY HN hown
        go_wp2
        go_roundw
        case rel => exact ⟨k + 1, by omega, by go_num, by rw [HT.out]; exact HO.out, hb⟩
        case measure => simp [intOf]; omega
      · have HT := Lib.hid (HN.out hb0)
        have HO := Lib.hid hown
        clear hb0 HY HN hown
        go_wp2
        go_roundw
        case rel => exact ⟨k + 1, by omega, by go_num, by rw [HT.out]; exact HO.out, hb⟩
        case measure => simp [intOf]; omega
    · obtain rfl : n = k := by omega
      rw [List.take_of_length_le (by rw [HL.out]; omega)] at hown
      have hnn := kept_noNum cs
      have hsd := side_is b
      have HK : Hid (∀ c ∈ kept cs, 0 ≤ c ∧ c ≤ 22) := fun c hc => HB.out c (List.mem_filter.1 hc).1
      have hkl : (kept cs).length ≤ 1048576 := by have := kept_len cs; rw [HL.out] at this; omega
      have HT := Lib.hid (weak_twice (kept cs) (sideOf b) hsd hnn)
      have HD := Lib.hid (weak_bd (kept cs) (sideOf b) HK.out hsd)
      clear hl2 hnn
      generalize kept cs = ks at *
      obtain ⟨m, hm⟩ : ∃ m, ks.length = m := ⟨_, rfl⟩
      rw [hm] at hown hkl
      clear hm
      obtain ⟨A3, c3, rfl, _, hl3⟩ := own_slice hown
      have hB3 := hB2.trans (hb.mono hB2.size)
      clear hown hb hB2 hsd
      go_wp2_with (first
        | (go_at_call 20; (with_reducible refine (side_any _ _).mono ?_); rintro e w' ⟨rfl, rfl⟩)
        | (go_at_call 22; (with_reducible refine (resolve_any _ _ _ ks (sideOf b) _ hl3 (by omega)).mono ?_); rintro e w4 ⟨v4, rfl, hown4, hb4⟩; have hB4 := hB3.trans (hb4.mono hB3.size); obtain ⟨A4, c4, rfl, _, hl4⟩ := own_slice hown4; clear hown4 hb4 hB3)
        | (go_at_call 22; (with_reducible refine (resolve_any _ _ _ (weakL ks (sideOf b)) (sideOf b) _ hl4 (by omega)).mono ?_); rintro e w5 ⟨v5, rfl, hown5, hb5⟩; rw [HT.out] at hown5; have hB5 := hB4.trans (hb5.mono hB4.size); have hl45 := hl4.same hb5; obtain ⟨A5, c5, rfl, _, hl5⟩ := own_slice hown5; clear hown5 hb5 hB4 hl4)
        | (go_at_call 24; (with_reducible refine (ints_any _ _ _ (weakL ks (sideOf b)) _ hl45 (by omega) HD.out).mono ?_); rintro e w6 ⟨v6, rfl, hown6, hb6⟩; have hB6 := hB5.trans (hb6.mono hB5.size); have hl56 := hl5.same hb6; obtain ⟨A6, c6, rfl, _, hl6⟩ := own_slice hown6; clear hown6 hb6 hB5 hl5 hl45)
        | (go_at_call 21; (with_reducible refine (like_any _ _ _ _ _ _ _ _ hl56 hl6 (by omega) HD.out).mono ?_); rintro e w7 ⟨rfl, hb7⟩; have hB7 := hB6.trans (hb7.mono hB6.size)))
      go_ret
      exact ⟨rfl, hB7⟩
end Go.Proofs.Ytmonkeencbhcmaa.wk
