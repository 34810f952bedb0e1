/-
  Layer 24: the walk of the statement RelevelEnds.
-/
import Derived.Test.YtgkmpndebcdigaaRlo
namespace Go.Proofs.Ytgkmpndebcdigaa
open Go.RowKit

theorem backL_ends (n b k : Nat) : backL ((List.replicate n (1 : Int) ++ List.replicate b (12 : Int)).drop k) = decide (n ≤ k) := by
  rcases Nat.lt_or_ge k n with h | h
  · rw [List.drop_append_of_le_length (by simp; omega), List.drop_replicate, show n - k = (n - k - 1) + 1 from by omega, List.replicate_succ]
    have : ¬ n ≤ k := by omega
    simp [backL, sepa, blank, iso, taken, emb, this]
  · rw [List.drop_append, List.drop_replicate, List.drop_replicate, show n - k = 0 from by omega]
    simp only [List.replicate_zero, List.nil_append, List.length_replicate, h, decide_true]
    generalize b - (k - n) = m
    induction m with
    | zero => rfl
    | succ m ih => rw [List.replicate_succ, backL]; simpa [sepa, blank] using ih

theorem backL_shut (l : List Int) (h : ∀ c ∈ l, c = 1 ∨ c = 12) (k : Nat) (hk : k < (l ++ [1]).length) : backL ((l ++ [1]).drop k) = false := by
  induction l generalizing k with
  | nil =>
    have : k = 0 := by simp at hk; omega
    subst this; rfl
  | cons c r ih =>
    cases k with
    | succ k => simpa using ih (fun c hc => h c (by simp [hc])) k (by simpa using hk)
    | zero =>
      have hr := ih (fun c hc => h c (by simp [hc])) 0 (by simp)
      simp only [List.drop_zero] at hr ⊢
      rw [List.cons_append, backL]
      rcases h c (by simp) with rfl | rfl
      · rfl
      · simpa [sepa, blank] using hr

theorem ends_one (ls : List Int) (n b : Nat) (be : Int) (hl : ls.length = n) (k : Nat) (hk : k < n + b) :
    (relL (ls ++ List.replicate b 3) (List.replicate n 1 ++ List.replicate b 12) (List.replicate (n + b) be))[k]? = some (if n ≤ k then be else (ls ++ List.replicate b 3).getD k 0) := by
  have hkl : k < (ls ++ List.replicate b 3).length := by simp; omega
  rw [relL_get _ _ _ (by simp [hl]) (by simp [hl]) k hkl, backL_ends]
  congr 1
  rcases Nat.lt_or_ge k n with h | h
  · have : ¬ n ≤ k := by omega
    rw [if_neg (by simp [this]), if_neg this, List.getD_eq_getElem?_getD, List.getElem?_eq_getElem hkl]; rfl
  · rw [if_pos (by rw [List.getElem_append_right (by omega)]; simp [h]), if_pos h]
    simp

theorem ends_two (ls cs bs : List Int) (h : ∀ c ∈ cs, c = 1 ∨ c = 12) (h1 : (cs ++ [1]).length = ls.length) (h2 : bs.length = ls.length) : relL ls (cs ++ [1]) bs = ls := by
  apply List.ext_getElem?
  intro k
  by_cases hk : k < ls.length
  · rw [relL_get _ _ _ h1 h2 k hk, backL_shut cs h k (by omega), List.getElem?_eq_getElem hk]
    simp
  · rw [List.getElem?_eq_none (by rw [relL_length _ _ _ h1 h2]; omega), List.getElem?_eq_none (by omega)]

theorem mem_ends (n b : Nat) : ∀ c ∈ (List.replicate n 1 ++ List.replicate b 12 : List Int), c = 1 ∨ c = 12 := by
  intro c hc
  simp only [List.mem_append, List.mem_replicate] at hc
  omega

theorem ends_ne {v v' : Value} {B H g : Nat} {n c : Nat} (h7 : ∀ g, v.ownBlock = some g → g < B) (hat : v'.ownBlock = v.ownBlock ∨ ∃ g, v'.ownBlock = some g ∧ H ≤ g) (hH : B + 1 ≤ H)
    (h : some g = Value.ownBlock (.slice (some ⟨B, 0, none⟩) n c)) (hg : v'.ownBlock = some g) : False := by
  simp only [Value.ownBlock, Option.some.injEq] at h
  subst h
  rcases hat with h4 | ⟨g', h4, hle⟩
  · have h5 := h7 g (h4.symm.trans hg)
    omega
  · rw [h4] at hg
    injection hg with hg
    omega

set_option maxRecDepth 100000 in
set_option maxHeartbeats 8000000 in
theorem ends_law (A : Option Addr) (n c : Nat) (zs : List Int) (x y : Int) (w : World)
    (hr : Rd w 1 A n (ints .u8 zs)) (hz : ∀ z ∈ zs, 0 ≤ z ∧ z ≤ 255) (hx : 0 ≤ x ∧ x ≤ 255) (hy : 0 ≤ y ∧ y ≤ 255) (hn : n ≤ 1048576) :
    Calls Try.prog 9 #[.slice A n c, .int .u8 x, .int .u8 y] w fun e w' => e = .returned (.bool true) ∧ Below w.heap.size w w' := by
  obtain ⟨i0, hi, hz0, hz1, hz2⟩ := info_parts info29
  obtain ⟨j0, hj, hy0, hy1, hy2⟩ := info_parts info3
  obtain ⟨b, hb6⟩ : ∃ b : Nat, x % 6 = b := ⟨(x % 6).toNat, by omega⟩
  have hb5 : b ≤ 5 := by omega
  have H6 := Lib.hid hb6
  clear hb6
  go_enter Try.func9, Try.ntmps9
  go_wp2_with fail
  refine (awake24_any _).mono ?_
  rintro e w1 ⟨rfl, hb1⟩
  go_wp2_with fail
  refine (levels_any _ _ _ zs _ (hr.same hb1) (by omega) hz).mono ?_
  rintro e w2 ⟨v2, rfl, hown2, hb2⟩
  have HL := Lib.hid (show (levels zs).length = n by simpa [ints] using hown2.1)
  generalize levels zs = ls at *
  obtain ⟨A2, c2, rfl, hc2, _⟩ := own_slice hown2
  go_wp2
  go_loopw [8, 22] (fun v i wr => ∃ k : Nat, k ≤ n ∧ i = .int .i64 k ∧ wr.ownsRow w1.heap.size 29 1 v k (ints .u8 (List.replicate k 1)) ∧ wr.ownsRow w1.heap.size 3 1 (.slice A2 n c2) n (ints .i64 ls) ∧
      Below w1.heap.size w1 wr)
    (fun _ i _ => n - (intOf i).toNat)
  case atStart => exact ⟨0, Nat.zero_le _, rfl, World.ownsRow_nil _ _ _ _, hown2, hb2⟩
  case round =>
    clear hown2 hb2
    obtain ⟨k, hk, rfl, hc, hl, hb⟩ := hrel
    by_cases hlt : k < n
    · go_wp2_with (at_builtin; refine wpList_append_one rfl (.tmp 24) (.tmp 25) 24 rfl w1.heap.size w1 w1.heap.size 29 i0 (.int .u8 0) 1 Try.underlying24 hi hz0 hz1 hz2 rfl _ _ _ rfl hc _ _ rfl _ rfl (by simp) hb hb.size (Nat.le_refl _) hb.size (by omega) (by omega) ?_; intro v5 w5 hc1 hb1 hg1 u1; clear u1)
      go_roundw
      case rel => exact ⟨k + 1, by omega, by go_num, by simpa [ints, List.replicate_succ'] using hc1, own_block hl (fun g hg => hg1.block g (hl.lt g hg).2 (fun h => own_own_ne hc hl (by decide) h.symm hg)), hb1⟩
      case measure => simp [intOf]; omega
    · obtain rfl : n = k := by omega
      go_wp2
      go_loopw [7, 8, 9] (fun l v i wr => ∃ k : Nat, k ≤ b ∧ i = .int .i64 k ∧ wr.ownsRow w1.heap.size 29 1 v (n + k) (ints .u8 (List.replicate n 1 ++ List.replicate k 12)) ∧
          wr.ownsRow w1.heap.size 3 1 l (n + k) (ints .i64 (ls ++ List.replicate k 3)) ∧ Below w1.heap.size w1 wr)
        (fun _ _ i _ => b - (intOf i).toNat)
      case atStart => exact ⟨0, Nat.zero_le _, rfl, by simpa using hc, by simpa using hl, hb⟩
      case round =>
        clear hc hl hb
        obtain ⟨k, hk, rfl, hc, hl, hb⟩ := hrel
        have e6 := H6.out
        by_cases hlt : k < b
        · go_wp2_with (first
            | (at_builtin; refine wpList_append_one rfl (.tmp 35) (.tmp 36) 26 rfl w1.heap.size w1 w1.heap.size 3 j0 (.int .i64 0) 8 Try.underlying26 hj hy0 hy1 hy2 rfl _ _ _ rfl hl _ _ rfl _ rfl (by simp) hb hb.size (Nat.le_refl _) hb.size (by omega) (by omega) ?_; intro l5 w5 hl1 hb1 hg1 u1; clear u1; have hc1 := own_block hc (fun g hg => hg1.block g (hc.lt g hg).2 (fun h => own_own_ne hl hc (by decide) h.symm hg)); clear hl hc hg1)
            | (at_builtin; refine wpList_append_one rfl (.tmp 38) (.tmp 39) 24 rfl w1.heap.size w1 w1.heap.size 29 i0 (.int .u8 0) 1 Try.underlying24 hi hz0 hz1 hz2 rfl _ _ _ rfl hc1 _ _ rfl _ rfl (by simp) hb1 hb1.size (Nat.le_refl _) hb1.size (by omega) (by omega) ?_; intro v5 w6 hc2 hb2 hg2 u1; clear u1; have hl2 := own_block hl1 (fun g hg => hg2.block g (hl1.lt g hg).2 (fun h => own_own_ne hc1 hl1 (by decide) h.symm hg)); clear hl1 hc1 hg2))
          go_roundw
          case rel => exact ⟨k + 1, by omega, by go_num, by simpa [ints, List.replicate_succ', Nat.add_assoc] using hc2, by simpa [ints, List.replicate_succ', Nat.add_assoc] using hl2, hb2⟩
          case measure => simp [intOf]; omega
        · obtain rfl : b = k := by omega
          obtain ⟨N, hN⟩ : ∃ N, n + b = N := ⟨_, rfl⟩
          rw [hN] at hl hc
          have hN1 : n ≤ N := by omega
          have hN2 : N ≤ n + 5 := by omega
          have HN := Lib.hid hN
          clear hN
          obtain ⟨A7, c7, rfl, hc7, _⟩ := own_slice hl
          obtain ⟨A8, c8, rfl, hc8, _⟩ := own_slice hc
          have hmk := fun W => make_one (P := Try.prog) 26 3 j0 (.int .i64 0) 8 Try.underlying26 hj hy0 hy1 hy2 N (by omega) (by omega) W
          go_wp2
          clear hmk e6
          obtain ⟨wo, rfl⟩ : ∃ wo : World, wo = wr := ⟨_, rfl⟩
          have hwo := hb.size
          go_loopw [46] (fun i wr => ∃ k : Nat, k ≤ N ∧ i = .int .i64 k ∧ wr.ownsRow wo.heap.size 3 1 (.slice (some ⟨wo.heap.size, 0, none⟩) N N) N (ints .i64 (List.replicate k (y % 2) ++ List.replicate (N - k) 0)) ∧
              Below wo.heap.size wo wr)
            (fun i _ => N - (intOf i).toNat)
          case atStart => exact ⟨0, Nat.zero_le _, rfl, by simpa using made_own wo 3 .i64 N (by omega) (Nat.le_refl _), (Below.refl _ _).alloc (Nat.le_refl _) _⟩
          case round =>
            obtain ⟨k, hk, rfl, hbs, hbo⟩ := hrel
            by_cases hlt : k < N
            · obtain ⟨u0, hco⟩ : ∃ u, wr.cell? ⟨wo.heap.size, k, none⟩ = some u := ⟨_, (hbs.cellAt k (by omega)).trans (ints_at (by simp; omega))⟩
              have hfo := hbs.frozenAt k
              have ho1 := (hbs.stored k (.int .i64 (y % 2))).1
              rw [ints_set, fill_set _ _ _ _ hlt] at ho1
              have hb1 := hbo.setCell (p := ⟨wo.heap.size, k, none⟩) (Nat.le_refl _) (.int .i64 (y % 2))
              go_wp2
              go_roundw
              case rel => exact ⟨k + 1, by omega, by go_num, ho1, hb1⟩
              case measure => simp [intOf]; omega
            · obtain rfl : N = k := by omega
              simp only [Nat.sub_self, List.replicate_zero, List.append_nil] at hbs
              have hl3 := own_block hl fun g hg => hbo.block g (hl.lt g hg).2
              have hc3 := own_block hc fun g hg => hbo.block g (hc.lt g hg).2
              have hB3 := hb.trans (hbo.mono hb.size)
              have hlt7 := fun g hg => (hl.lt g hg).2
              have hso : wo.heap.size ≤ wr.heap.size := hbo.size
              clear hl hc hb hbo
              go_wp2_with fail
              refine (rel_any _ _ _ _ _ _ _ _ _ (ls ++ List.replicate b 3) (List.replicate n 1 ++ List.replicate b 12) (List.replicate N (y % 2)) _ (Rd.of_own hl3) (Rd.of_own hc3) (Rd.of_own hbs) (by omega) (by omega) (by omega)).mono ?_
              rintro e w8 ⟨v8, rfl, hown8, hb8⟩
              obtain ⟨A9, c9, rfl, _, hm9⟩ := own_slice hown8
              replace hl3 := own_block hl3 fun g hg => hb8.block g (hl3.lt g hg).2
              replace hc3 := own_block hc3 fun g hg => hb8.block g (hc3.lt g hg).2
              replace hbs := own_block hbs fun g hg => hb8.block g (hbs.lt g hg).2
              replace hB3 := hB3.trans (hb8.mono hB3.size)
              have hso8 : wo.heap.size ≤ w8.heap.size := Nat.le_trans hso hb8.size
              rw [relOf, if_pos ⟨by simp [HL.out], by simp [HL.out, HN.out]⟩] at hm9
              have HE0 := ends_one ls n b (y % 2) HL.out
              rw [HN.out] at HE0
              have HE := Lib.hid HE0
              clear HE0
              clear hown8 hb8 hso
              go_wp2
              go_loopw [67] (fun i wr => ∃ k : Nat, k ≤ N ∧ i = .int .i64 k ∧ Below w8.heap.size w8 wr)
                (fun i _ => N - (intOf i).toNat)
              case atStart => exact ⟨0, Nat.zero_le _, rfl, Below.refl _ _⟩
              case round =>
                obtain ⟨k, hk, rfl, hb⟩ := hrel
                by_cases hlt : k < N
                · obtain ⟨ad9, rfl, hc9⟩ := (hm9.same hb).2 (by omega)
                  obtain ⟨ad7, rfl, hcl⟩ := ((Rd.of_own hl3).same hb).2 (by omega)
                  have hkl : k < (ls ++ List.replicate b 3).length := by rw [List.length_append, List.length_replicate, HL.out, HN.out]; exact hlt
                  have e7 := hcl k _ (ints_at hkl)
                  have hq := HE.out k hlt
                  rw [List.getD_eq_getElem?_getD, List.getElem?_eq_getElem hkl] at hq
                  have e9 := hc9 k _ (show (ints .i64 (relL (ls ++ List.replicate b 3) (List.replicate n 1 ++ List.replicate b 12) (List.replicate N (y % 2))))[k]? = some (.int .i64 _) from by rw [ints, List.getElem?_map, hq]; rfl)
                  clear hcl hc9 hq hm9 hl3 hc3 hbs
                  simp only [Option.getD_some] at e9
                  generalize (ls ++ List.replicate b 3)[k] = l at *
                  by_cases hnk : n ≤ k
                  · rw [if_pos hnk] at e9
                    have hd : decide (k < n) = false := by simp; omega
                    go_wp2
                    go_quiet (fail)
                    go_wp2
                    go_roundw
                    case rel => exact ⟨k + 1, by omega, by go_num, by first | exact hb | exact hb.drew | exact drawn hb _⟩
                    case measure => simp [intOf]; omega
                  · rw [if_neg hnk] at e9
                    have hd : decide (n ≤ k) = false := by simp; omega
                    have hkn : k < n := by omega
                    go_wp2
                    go_quiet (fail)
                    go_wp2
                    go_roundw
                    case rel => exact ⟨k + 1, by omega, by go_num, by first | exact hb | exact hb.drew | exact drawn hb _⟩
                    case measure => simp [intOf]; omega
                · replace hl3 := own_block hl3 fun g hg => hb.block g (hl3.lt g hg).2
                  replace hc3 := own_block hc3 fun g hg => hb.block g (hc3.lt g hg).2
                  replace hbs := own_block hbs fun g hg => hb.block g (hbs.lt g hg).2
                  replace hB3 := hB3.trans (hb.mono hB3.size)
                  replace hso8 : wo.heap.size ≤ wr.heap.size := Nat.le_trans hso8 hb.size
                  have hs1 : w1.heap.size ≤ wr.heap.size := hB3.size
                  have hso1 := own_size hbs
                  have H7 := Lib.hid hlt7
                  clear hm9 HE hb hlt7
                  go_wp2_with (first
                    | (at_builtin; (refine wpList_append_one rfl (.tmp 102) (.tmp 103) 26 rfl w1.heap.size w1 w1.heap.size 3 j0 (.int .i64 0) 8 Try.underlying26 hj hy0 hy1 hy2 rfl _ _ _ rfl hl3 _ _ rfl _ rfl (by simp) hB3 hs1 (Nat.le_refl _) hs1 (by omega) (by omega) ?_); intro l5 w5 hl4 hb4 hg4 hat4; have hc4 := own_block hc3 (fun g hg => hg4.block g (hc3.lt g hg).2 (fun h => own_own_ne hl3 hc3 (by decide) h.symm hg)); have hbs4 := own_block hbs (fun g hg => hg4.block g (hbs.lt g hg).2 (fun h => by have h1 := H7.out g h.symm; simp [Value.ownBlock] at hg; omega)))
                    | (at_builtin; refine wpList_append_one rfl (.tmp 105) (.tmp 106) 24 rfl w1.heap.size w1 w1.heap.size 29 i0 (.int .u8 0) 1 Try.underlying24 hi hz0 hz1 hz2 rfl _ _ _ rfl hc4 _ _ rfl _ rfl (by simp) hb4 hb4.size (Nat.le_refl _) hb4.size (by omega) (by omega) ?_; intro v5 w6 hc5 hb5 hg5 u1; clear u1; have hl5 := own_block hl4 (fun g hg => hg5.block g (hl4.lt g hg).2 (fun h => own_own_ne hc4 hl4 (by decide) h.symm hg)); have hbs5 := own_block hbs4 (fun g hg => hg5.block g (hbs4.lt g hg).2 (fun h => own_own_ne hc4 hbs4 (by decide) h.symm hg)))
                    | (at_builtin; go_loud (refine wpList_append_one rfl (.tmp 108) (.tmp 112) 26 rfl w1.heap.size w1 wo.heap.size 3 j0 (.int .i64 0) 8 Try.underlying26 hj hy0 hy1 hy2 rfl _ _ _ rfl hbs5 _ _ rfl _ rfl (by simp) hb5 hb5.size hwo (by have := own_size hbs5; omega) (by omega) (by omega) ?_; intro b5 w7 hbs6 hb6 hg6 u1; clear u1; have hc6 := own_block hc5 (fun g hg => hg6.block g (hc5.lt g hg).2 (fun h => own_own_ne hbs5 hc5 (by decide) h.symm hg)); have hl6 := own_block hl5 (fun g hg => hg6.block g (hl5.lt g hg).2 (fun h => ends_ne H7.out hat4 hso1 h hg))))
                    | fail)
                  obtain ⟨A10, c10, rfl, _, hr10⟩ := own_slice hl6
                  obtain ⟨A11, c11, rfl, _, hr11⟩ := own_slice hc6
                  obtain ⟨A12, c12, rfl, _, hr12⟩ := own_slice hbs6
                  clear hl3 hc3 hbs hl4 hc4 hbs4 hc5 hl5 hbs5 hbs6 hl6 hc6 hb4 hb5 hg4 hg5 hg6 hat4 H7 hB3
                  obtain ⟨lv, hlv⟩ : ∃ lv, lv = ls ++ List.replicate b 3 ++ [1] := ⟨_, rfl⟩
                  have hr10' : Rd w7 1 A10 (N + 1) (ints .i64 lv) := by rw [hlv]; simpa [ints] using hr10
                  have hr11' : Rd w7 1 A11 (N + 1) (ints .u8 (List.replicate n 1 ++ List.replicate b 12 ++ [1])) := by simpa [ints] using hr11
                  have hr12' : Rd w7 1 A12 (N + 1) (ints .i64 (List.replicate N (y % 2) ++ [y % 2])) := by simpa [ints] using hr12
                  have hll : lv.length = N + 1 := by have := HN.out; rw [hlv]; simp [HL.out]; omega
                  have HLL := Lib.hid hll
                  clear hr10 hr11 hr12 hlv hll
                  refine (rel_any _ _ _ _ _ _ _ _ _ lv (List.replicate n 1 ++ List.replicate b 12 ++ [1]) (List.replicate N (y % 2) ++ [y % 2]) _ hr10' hr11' hr12' (by omega) (by omega) (by omega)).mono ?_
                  rintro e w9 ⟨v9, rfl, hown9, hb9⟩
                  rw [relOf, if_pos ⟨by have := HN.out; rw [HLL.out]; simp; omega, by rw [HLL.out]; simp⟩, ends_two _ _ _ (mem_ends n b) (by have := HN.out; rw [HLL.out]; simp; omega) (by rw [HLL.out]; simp)] at hown9
                  obtain ⟨A13, c13, rfl, _, hr13⟩ := own_slice hown9
                  replace hr10' := hr10'.same hb9
                  have hB9 : Below w.heap.size w w9 := hb1.trans ((hb6.trans (hb9.mono hb6.size)).mono hb1.size)
                  clear hr11' hr12' hown9 hb9 hb6
                  go_wp2
                  go_loopw [125] (fun i wr => ∃ k : Nat, k ≤ N + 1 ∧ i = .int .i64 k ∧ Below w9.heap.size w9 wr)
                    (fun i _ => N + 1 - (intOf i).toNat)
                  case atStart => exact ⟨0, Nat.zero_le _, rfl, Below.refl _ _⟩
                  case round =>
                    obtain ⟨k, hk, rfl, hb⟩ := hrel
                    by_cases hlt : k < N + 1
                    · obtain ⟨ad13, rfl, hc13⟩ := (hr13.same hb).2 (by omega)
                      obtain ⟨ad10, rfl, hc10⟩ := (hr10'.same hb).2 (by omega)
                      have hkl : k < lv.length := by rw [HLL.out]; exact hlt
                      have e13 := hc13 k _ (ints_at hkl)
                      have e10 := hc10 k _ (ints_at hkl)
                      clear hc13 hc10 hr13 hr10'
                      generalize lv[k] = l at *
                      go_wp2
                      go_quiet (fail)
                      go_wp2
                      go_roundw
                      case rel => exact ⟨k + 1, by omega, by go_num, by first | exact hb | exact hb.drew | exact drawn hb _⟩
                      case measure => simp [intOf]; omega
                    · go_wp2
                      go_ret
                      exact ⟨rfl, hB9.trans (hb.mono hB9.size)⟩
end Go.Proofs.Ytgkmpndebcdigaa
